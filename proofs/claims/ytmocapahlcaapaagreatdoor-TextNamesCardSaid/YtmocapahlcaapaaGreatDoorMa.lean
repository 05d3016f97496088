/- Proved here: what the law of this claim leans on (an evaluator of the model's code, contracts of functions). No condition. -/
import Derived.WalkKit
import Derived.Lib.SmallJoins
import Derived.Lib.ItoaNum
import Derived.Lib.Space
import Derived.Stop.LaidErr
import Derived.Test.YtmocapahlcaapaaGreatDoorProg
import Derived.ChangeKeysEq
import Derived.Laws.BytesString
import Derived.Laws.Append
import Derived.Laws.AppendOwn
import Derived.Lib.Bytealg
import Derived.Lib.MakeNoZero
import Derived.Laws.IdiomStrings
import Derived.RangeFuncRecord
namespace Go.Proofs.YtmocapahlcaapaaGreatDoor
open Go.RowKit
set_option linter.unusedVariables false

/-- What is known of the first world's own blocks, and of all worlds in which they are as they were. -/
def Facts (w : World) : Prop := Lib.TabIs Tryz.prog w "internal/strconv.uint64pow10" .u64 Lib.pow10Tab ∧ (∃ tp p, w.var? Tryz.prog "strconv.ErrSyntax" = some #[.iface tp p]) ∧ (∃ tp p, w.var? Tryz.prog "strconv.ErrRange" = some #[.iface tp p]) ∧ Lib.TabIs Tryz.prog w "strings.asciiSpace" .u8 Lib.asciiSpaceTab
def Door (n : Nat) (w : World) : Prop := ∀ w', Below n w w' → Facts w'
theorem Door.later {n : Nat} {w w' : World} (h : Door n w) (hb : Below n w w') (hn : n ≤ w'.heap.size) : Door w'.heap.size w' := fun w'' hb' => h w'' (hb.trans (hb'.mono hn))
theorem Facts.door {w : World} (h : Facts w) : Door w.heap.size w := by
  intro w' hb
  obtain ⟨h1, ⟨t2, p2, h2⟩, ⟨t3, p3, h3⟩, h4⟩ := h
  obtain ⟨g1, e1⟩ : ∃ g, Tryz.prog.globalNamed "internal/strconv.uint64pow10" = some g := Option.isSome_iff_exists.1 (by kernel_rfl)
  obtain ⟨g2, e2⟩ : ∃ g, Tryz.prog.globalNamed "strconv.ErrSyntax" = some g := Option.isSome_iff_exists.1 (by kernel_rfl)
  obtain ⟨g3, e3⟩ : ∃ g, Tryz.prog.globalNamed "strconv.ErrRange" = some g := Option.isSome_iff_exists.1 (by kernel_rfl)
  obtain ⟨g4, e4⟩ : ∃ g, Tryz.prog.globalNamed "strings.asciiSpace" = some g := Option.isSome_iff_exists.1 (by kernel_rfl)
  exact ⟨Joins.tab_stays e1 h1 hb (Nat.le_refl _), ⟨t2, p2, Joins.var_stays e2 h2 hb (Nat.le_refl _)⟩, ⟨t3, p3, Joins.var_stays e3 h3 hb (Nat.le_refl _)⟩, Joins.tab_stays e4 h4 hb (Nat.le_refl _)⟩
end Go.Proofs.YtmocapahlcaapaaGreatDoor

namespace Go.Proofs.YtmocapahlcaapaaGreatDoor
set_option linter.unusedSimpArgs false
set_option linter.unusedVariables false
open Go.RowKit

/-- Abstract values: addresses are (block of the abstract memory, offset, version). -/
inductive AV where
  | u
  | ud
  | b (x : Bool)
  | i (k : IntKind) (n : Int)
  | s (l : List UInt8)
  | pn
  | p (i off v : Nat)
  | sn
  | se
  | sl (i off v len cap : Nat) (ex : Bool)
  | mn
  | m (i : Nat)
  | nf
  | f (fn : Fn) (first caps : List AV)
  | y (i : Nat)
  | ni
  | it (t : TypeId) (v : AV)
  | ag (cs : List AV)
  | tu (cs : List AV)
  deriving Inhabited

/-- How a round of a loop over a function was left. -/
inductive Jump where
  | ret
  | exit (id : Nat)
  | goto (l : Nat)
  deriving DecidableEq

def Jump.code : Jump → Code
  | .ret => .ret
  | .exit id => .exit id
  | .goto l => .goto l

abbrev Env := List (Nat × AV)
def Env.get : Env → Nat → AV
  | [], _ => .u
  | (k, v) :: r, t => bif Nat.beq k t then v else Env.get r t

/-- An abstract block; 'loop': the record of a loop over a function (whose: the function, and the way to it in the code). -/
inductive Blk where
  | cells (cs : List AV) (ver : Nat) (opn : Option Nat) (rw : Bool)
  | map (es : List (AV × AV × Nat)) (clock : Nat)
  | dfr (live : Bool)
  | loop (f : Nat) (path : List Bool) (env : Env) (st : LoopState) (pend : Option Jump)
  | itr (x : AV)
  deriving Inhabited

abbrev Mem := List Blk

def Blk.ver : Blk → Nat
  | .cells _ v _ _ => v
  | _ => 0
def Blk.opn : Blk → Option Nat
  | .cells _ _ o _ => o
  | _ => none
def Blk.rw : Blk → Bool
  | .cells _ _ _ r => r
  | _ => true

/-- From which block on all is new; which loops over functions there are. -/
structure Bs where
  n : Nat
  Λ : Nat → List Bool → Option (Array Tmp × Code × Code × Nat)
instance : CoeOut Bs Nat := ⟨Bs.n⟩

/-- Where the abstract blocks lie: the concrete block of each, and how many cells it has. -/
structure Ctx where
  μ : Nat → Nat
  σ : Nat → Nat

/-- 'x' stands for the concrete value. -/
inductive VR (K : Ctx) (S : Mem) : AV → Value → Prop where
  | u (v : Value) : VR K S .u v
  | ud : VR K S .ud undef
  | b (x : Bool) : VR K S (.b x) (.bool x)
  | i (k : IntKind) (n : Int) : VR K S (.i k n) (.int k n)
  | s (l : List UInt8) : VR K S (.s l) (.string ⟨l.toArray⟩)
  | pn : VR K S .pn (.pointer none)
  | p (i off v : Nat) (a : Addr) (B : Blk) (h : S[i]? = some B) (hv : v ≤ B.ver) (ha : B.ver = v → a = ⟨K.μ i, off, none⟩) : VR K S (.p i off v) (.pointer (some a))
  | sn : VR K S .sn (.slice none 0 0)
  | se (a : Addr) (c : Nat) : VR K S .se (.slice (some a) 0 c)
  | sl (i off v len cap : Nat) (ex : Bool) (a : Addr) (c : Nat) (B : Blk) (h : S[i]? = some B) (hv : v ≤ B.ver) (hl : len ≤ cap) (hc : cap ≤ c) (he : ex = true → c = cap)
      (ha : B.ver = v → a = ⟨K.μ i, off, none⟩ ∧ (ex = false → ∃ es, B.opn = some es ∧ off + c * es ≤ K.σ i)) : VR K S (.sl i off v len cap ex) (.slice (some a) len c)
  | mn : VR K S .mn (.map none)
  | m (i r : Nat) (B : Blk) (h : S[i]? = some B) (hr : B.ver = 0 → r = K.μ i) : VR K S (.m i) (.map (some r))
  | nf : VR K S .nf .nilFunc
  | f (fn : Fn) (x y : List AV) (x' y' : Array Value) (hx : x.length = x'.size) (hy : y.length = y'.size)
      (h : ∀ k, VR K S (x.getD k .u) (x'.getD k undef)) (h' : ∀ k, VR K S (y.getD k .u) (y'.getD k undef)) : VR K S (.f fn x y) (.func fn x' y')
  | y (i r : Nat) (B : Blk) (h : S[i]? = some B) (hr : B.ver = 0 → r = K.μ i) : VR K S (.y i) (.func (.yield r) #[] #[])
  | ni : VR K S .ni .nilIface
  | it (t : TypeId) (x : AV) (v : Value) (h : VR K S x v) : VR K S (.it t x) (.iface t v)
  | ag (x : List AV) (x' : Array Value) (hx : x.length = x'.size) (h : ∀ k, VR K S (x.getD k .u) (x'.getD k undef)) : VR K S (.ag x) (.agg x')
  | tu (x : List AV) (x' : Array Value) (hx : x.length = x'.size) (h : ∀ k, VR K S (x.getD k .u) (x'.getD k undef)) : VR K S (.tu x) (.tuple x')

/-- The memory may have grown, blocks may have turned; a block of the same version lies where it lay. -/
structure Ext (K : Ctx) (S : Mem) (K' : Ctx) (S' : Mem) : Prop where
  len : S.length ≤ S'.length
  blk : ∀ i B, S[i]? = some B → ∃ B', S'[i]? = some B' ∧ B.ver ≤ B'.ver ∧ (B'.ver = B.ver → K'.μ i = K.μ i ∧ K'.σ i = K.σ i ∧ B'.opn = B.opn)

theorem Ext.refl (K : Ctx) (S : Mem) : Ext K S K S := ⟨Nat.le_refl _, fun _ B h => ⟨B, h, Nat.le_refl _, fun _ => ⟨rfl, rfl, rfl⟩⟩⟩
theorem Ext.trans {K K' K'' : Ctx} {S S' S'' : Mem} (h : Ext K S K' S') (h' : Ext K' S' K'' S'') : Ext K S K'' S'' := by
  refine ⟨Nat.le_trans h.len h'.len, fun i B hB => ?_⟩
  obtain ⟨B', hB', hv, hs⟩ := h.blk i B hB
  obtain ⟨B'', hB'', hv', hs'⟩ := h'.blk i B' hB'
  refine ⟨B'', hB'', Nat.le_trans hv hv', fun e => ?_⟩
  have e1 : B'.ver = B.ver := by omega
  have e2 : B''.ver = B'.ver := by omega
  obtain ⟨a, b, c⟩ := hs e1
  obtain ⟨a', b', c'⟩ := hs' e2
  exact ⟨a'.trans a, b'.trans b, c'.trans c⟩

theorem VR.mono {K K' : Ctx} {S S' : Mem} (hE : Ext K S K' S') {x : AV} {v : Value} (h : VR K S x v) : VR K' S' x v := by
  induction h with
  | u v => exact .u v
  | ud => exact .ud
  | b x => exact .b x
  | i k n => exact .i k n
  | s l => exact .s l
  | pn => exact .pn
  | p i off v a B hB hv ha =>
    obtain ⟨B', hB', hv', hs⟩ := hE.blk i B hB
    refine .p i off v a B' hB' (Nat.le_trans hv hv') fun e => ?_
    have e' : B'.ver = B.ver := by omega
    rw [(hs e').1]; exact ha (by omega)
  | sn => exact .sn
  | se a c => exact .se a c
  | sl i off v len cap ex a c B hB hv hl hc he ha =>
    obtain ⟨B', hB', hv', hs⟩ := hE.blk i B hB
    refine .sl i off v len cap ex a c B' hB' (Nat.le_trans hv hv') hl hc he fun e => ?_
    have e' : B'.ver = B.ver := by omega
    obtain ⟨h1, h2, h3⟩ := hs e'
    rw [h1, h2, h3]; exact ha (by omega)
  | mn => exact .mn
  | m i r B hB hr =>
    obtain ⟨B', hB', hv', hs⟩ := hE.blk i B hB
    refine .m i r B' hB' fun e => ?_
    have e' : B'.ver = B.ver := by omega
    rw [(hs e').1]; exact hr (by omega)
  | nf => exact .nf
  | f fn x y x' y' hx hy _ _ ih ih' => exact .f fn x y x' y' hx hy ih ih'
  | y i r B hB hr =>
    obtain ⟨B', hB', hv', hs⟩ := hE.blk i B hB
    refine .y i r B' hB' fun e => ?_
    have e' : B'.ver = B.ver := by omega
    rw [(hs e').1]; exact hr (by omega)
  | ni => exact .ni
  | it t x v _ ih => exact .it t x v ih
  | ag x x' hx _ ih => exact .ag x x' hx ih
  | tu x x' hx _ ih => exact .tu x x' hx ih

/-- Up to where a block that is written bears no mark: bytes of a string may bear one behind their last cell. -/
def endOf (op : Option Nat) (n : Nat) : Nat := if op = some 1 then n else n + 1
theorem endOf_ge (op : Option Nat) (n : Nat) : n ≤ endOf op n := by unfold endOf; split <;> omega

/-- The block 'B', number i of the abstract memory, lies in the world. -/
def BRel (base : Bs) (K : Ctx) (S : Mem) (w : World) (i : Nat) : Blk → Prop
  | .cells cs _ opn rw => ∃ c et fz, w.heap[K.μ i]? = some (.cells c et fz) ∧ c.size = K.σ i ∧ cs.length ≤ c.size ∧ (opn = none → c.size = cs.length) ∧
      (∀ k, k < cs.length → VR K S (cs.getD k .u) (c.getD k undef)) ∧ (rw = true → base ≤ K.μ i ∧ ∀ o, o < endOf opn c.size → ¬ (fz.1 ≤ o ∧ o < fz.2))
  | .map es clock => ∃ E, w.heap[K.μ i]? = some (.map E clock) ∧ es.length = E.size ∧ base ≤ K.μ i ∧
      ∀ k (h : k < es.length) (h' : k < E.size), VR K S (es[k]).1 (E[k]).key ∧ VR K S (es[k]).2.1 (E[k]).val ∧ (es[k]).2.2 = (E[k]).born
  | .dfr live => w.heap[K.μ i]? = some (.deferred (if live then some [] else none)) ∧ base ≤ K.μ i
  | .loop f path env st pend => ∃ r, w.heap[K.μ i]? = some (.loop r) ∧ base.Λ f path = some (r.params, r.assign, r.body, r.tmps.size) ∧ r.state = st ∧ r.pending = pend.map Jump.code ∧ base ≤ K.μ i ∧ ∀ t, VR K S (env.get t) (r.tmps.getD t undef)
  | .itr x => ∃ m since last, w.heap[K.μ i]? = some (.mapIter (some m) since #[] last) ∧ VR K S x (.map (some m)) ∧ base ≤ K.μ i

/-- The abstract memory stands for the world; below 'base' nothing has turned since w0. -/
structure Sim (base : Bs) (w0 : World) (K : Ctx) (S : Mem) (w : World) : Prop where
  blk : ∀ i B, S[i]? = some B → BRel base K S w i B
  inj : ∀ i j, i < S.length → j < S.length → K.μ i = K.μ j → i = j
  below : Below base w0 w
  hb : base ≤ w.heap.size
  door : Door base.n w0

/-- What a step may do. -/
structure Stp (K : Ctx) (S : Mem) (w : World) (K' : Ctx) (S' : Mem) (w' : World) : Prop where
  ext : Ext K S K' S'
  os : w'.os = w.os
  tape : w'.tape = w.tape
  output : w'.output = w.output
  size : w.heap.size ≤ w'.heap.size
  keep : ∀ b, b < w.heap.size → (∀ i B, S[i]? = some B → B.rw = true → K.μ i ≠ b) → w'.heap[b]? = w.heap[b]?
  own : ∀ i B', S'[i]? = some B' → (∃ B, S[i]? = some B ∧ (B'.rw = true → B.rw = true) ∧ K'.μ i = K.μ i) ∨ w.heap.size ≤ K'.μ i

theorem Stp.refl (K : Ctx) (S : Mem) (w : World) : Stp K S w K S w :=
  ⟨.refl K S, rfl, rfl, rfl, Nat.le_refl _, fun _ _ _ => rfl, fun _ B' h => .inl ⟨B', h, id, rfl⟩⟩

theorem Stp.trans {K K' K'' : Ctx} {S S' S'' : Mem} {w w' w'' : World} (h : Stp K S w K' S' w') (h' : Stp K' S' w' K'' S'' w'') : Stp K S w K'' S'' w'' := by
  refine ⟨h.ext.trans h'.ext, h'.os.trans h.os, h'.tape.trans h.tape, h'.output.trans h.output, Nat.le_trans h.size h'.size, fun b hb hn => ?_, fun i B'' hB'' => ?_⟩
  · rw [h'.keep b (Nat.lt_of_lt_of_le hb h.size) fun i B' hB' hr e => ?_, h.keep b hb hn]
    rcases h.own i B' hB' with ⟨B, hB, hr', e'⟩ | hge
    · exact hn i B hB (hr' hr) (e' ▸ e)
    · omega
  · rcases h'.own i B'' hB'' with ⟨B', hB', hr', e⟩ | hge
    · rcases h.own i B' hB' with ⟨B, hB, hr'', e'⟩ | hge
      · exact .inl ⟨B, hB, fun hr => hr'' (hr' hr), e.trans e'⟩
      · exact .inr (by rw [e]; exact hge)
    · exact .inr (Nat.le_trans h.size hge)

theorem BRel.ge {base : Bs} {K : Ctx} {S : Mem} {w : World} {i : Nat} {B : Blk} (h : BRel base K S w i B) (hr : B.rw = true) : base ≤ K.μ i := by
  cases B with
  | cells cs v o r => obtain ⟨c, et, fz, _, _, _, _, _, h⟩ := h; exact (h hr).1
  | map es cl => obtain ⟨E, _, _, h, _⟩ := h; exact h
  | dfr live => exact h.2
  | loop f p env st pe => obtain ⟨r, _, _, _, _, h, _⟩ := h; exact h
  | itr x => obtain ⟨m, a, b, _, _, h⟩ := h; exact h

theorem BRel.lt {base : Bs} {K : Ctx} {S : Mem} {w : World} {i : Nat} {B : Blk} (h : BRel base K S w i B) : K.μ i < w.heap.size := by
  have key : ∀ o, w.heap[K.μ i]? = some o → K.μ i < w.heap.size := fun o ho => (Array.getElem?_eq_some_iff.1 ho).1
  cases B with
  | cells cs v o r => obtain ⟨c, et, fz, h, _⟩ := h; exact key _ h
  | map es cl => obtain ⟨E, h, _⟩ := h; exact key _ h
  | dfr live => exact key _ h.1
  | loop f p env st pe => obtain ⟨r, h, _⟩ := h; exact key _ h
  | itr x => obtain ⟨m, a, b, h, _⟩ := h; exact key _ h

theorem Sim.step_below {base : Bs} {w0 : World} {K K' : Ctx} {S S' : Mem} {w w' : World} (h : Sim base w0 K S w) (hs : Stp K S w K' S' w') : Below base w0 w' :=
  h.below.trans ⟨hs.os, hs.tape, hs.output, hs.size, fun b hb => hs.keep b (Nat.lt_of_lt_of_le hb h.hb) fun i B hB hr e => by
    have := (h.blk i B hB).ge hr; omega⟩

/-- A block that neither it nor its place has turned. -/
theorem BRel.mono {base : Bs} {K K' : Ctx} {S S' : Mem} {w w' : World} {i : Nat} {B : Blk} (hE : Ext K S K' S') (h : BRel base K S w i B)
    (hμ : K'.μ i = K.μ i) (hσ : K'.σ i = K.σ i) (hw : w'.heap[K.μ i]? = w.heap[K.μ i]?) : BRel base K' S' w' i B := by
  cases B with
  | cells cs v o r =>
    obtain ⟨c, et, fz, h1, h2, h3, h4, h5, h6⟩ := h
    exact ⟨c, et, fz, by rw [hμ, hw]; exact h1, by rw [hσ]; exact h2, h3, h4, fun k hk => (h5 k hk).mono hE, by rw [hμ]; exact h6⟩
  | map es cl =>
    obtain ⟨E, h1, h2, h3, h4⟩ := h
    exact ⟨E, by rw [hμ, hw]; exact h1, h2, by rw [hμ]; exact h3, fun k a b => ⟨(h4 k a b).1.mono hE, (h4 k a b).2.1.mono hE, (h4 k a b).2.2⟩⟩
  | dfr live => exact ⟨by rw [hμ, hw]; exact h.1, by rw [hμ]; exact h.2⟩
  | loop f p env st pe =>
    obtain ⟨r, h1, h2, h3, h4, h5, h6⟩ := h
    exact ⟨r, by rw [hμ, hw]; exact h1, h2, h3, h4, by rw [hμ]; exact h5, fun t => (h6 t).mono hE⟩
  | itr x =>
    obtain ⟨m, a, b, h1, h2, h3⟩ := h
    exact ⟨m, a, b, by rw [hμ, hw]; exact h1, h2.mono hE, by rw [hμ]; exact h3⟩

/-- A place more in the context. -/
def Ctx.put (K : Ctx) (i m n : Nat) : Ctx := ⟨fun j => if j = i then m else K.μ j, fun j => if j = i then n else K.σ j⟩
theorem Ctx.put_same (K : Ctx) (i m n : Nat) : (K.put i m n).μ i = m ∧ (K.put i m n).σ i = n := by simp [Ctx.put]
theorem Ctx.put_other (K : Ctx) {i j : Nat} (m n : Nat) (h : j ≠ i) : (K.put i m n).μ j = K.μ j ∧ (K.put i m n).σ j = K.σ j := by simp [Ctx.put, h]

theorem Ext.push (K : Ctx) (S : Mem) (B : Blk) (m n : Nat) : Ext K S (K.put S.length m n) (S ++ [B]) := by
  refine ⟨by simp, fun i C h => ?_⟩
  have hi : i < S.length := (List.getElem?_eq_some_iff.1 h).1
  refine ⟨C, by rw [List.getElem?_append_left hi]; exact h, Nat.le_refl _, fun _ => ?_⟩
  have := K.put_other m n (show i ≠ S.length by omega)
  exact ⟨this.1, this.2, rfl⟩

theorem heap_new (w : World) (o : Obj) : (w.alloc o).heap[w.heap.size]? = some o := by show (w.heap.push o)[w.heap.size]? = some o; simp

/-- A new block. -/
theorem Sim.alloc {base : Bs} {w0 : World} {K : Ctx} {S : Mem} {w : World} (h : Sim base w0 K S w) (B : Blk) (o : Obj) (n : Nat)
    (hB : ∀ K' S' w', Ext K S K' S' → K'.μ S.length = w.heap.size → K'.σ S.length = n → w'.heap[w.heap.size]? = some o → base ≤ w.heap.size → BRel base K' S' w' S.length B) :
    Sim base w0 (K.put S.length w.heap.size n) (S ++ [B]) (w.alloc o) ∧ Stp K S w (K.put S.length w.heap.size n) (S ++ [B]) (w.alloc o) := by
  have hE : Ext K S (K.put S.length w.heap.size n) (S ++ [B]) := Ext.push K S B _ _
  have hold : ∀ k, k < w.heap.size → (w.alloc o).heap[k]? = w.heap[k]? := fun k hk => Below.heap_alloc w o k hk
  have hs : Stp K S w (K.put S.length w.heap.size n) (S ++ [B]) (w.alloc o) := by
    refine ⟨hE, rfl, rfl, rfl, by simp, fun b hb _ => hold b hb, fun i B' hB' => ?_⟩
    rcases Nat.lt_or_ge i S.length with hi | hi
    · rw [List.getElem?_append_left hi] at hB'
      exact .inl ⟨B', hB', id, (K.put_other _ _ (by omega)).1⟩
    · have : i = S.length := by
        have := (List.getElem?_eq_some_iff.1 hB').1
        simp at this; omega
      subst this
      exact .inr (by rw [(K.put_same _ _ _).1]; exact Nat.le_refl _)
  refine ⟨⟨fun i B' hB' => ?_, fun i j hi hj e => ?_, h.step_below hs, Nat.le_trans h.hb hs.size, h.door⟩, hs⟩
  · rcases Nat.lt_or_ge i S.length with hi | hi
    · rw [List.getElem?_append_left hi] at hB'
      have h1 := h.blk i B' hB'
      have hp := K.put_other w.heap.size n (show i ≠ S.length by omega)
      exact h1.mono hE hp.1 hp.2 (hold _ h1.lt)
    · have : i = S.length := by
        have := (List.getElem?_eq_some_iff.1 hB').1
        simp at this; omega
      subst this
      have hp := K.put_same S.length w.heap.size n
      simp at hB'
      subst hB'
      exact hB _ _ _ hE hp.1 hp.2 (heap_new w o) h.hb
  · have lt : ∀ k, k < S.length → K.μ k < w.heap.size := fun k hk => (h.blk k S[k] (List.getElem?_eq_getElem hk)).lt
    simp only [List.length_append, List.length_singleton] at hi hj
    rcases Nat.lt_or_ge i S.length with hi' | hi' <;> rcases Nat.lt_or_ge j S.length with hj' | hj'
    · rw [(K.put_other _ _ (by omega)).1, (K.put_other _ _ (by omega)).1] at e
      exact h.inj i j hi' hj' e
    · have : j = S.length := by omega
      subst this
      rw [(K.put_other _ _ (by omega)).1, (K.put_same _ _ _).1] at e
      have := lt i hi'; omega
    · have : i = S.length := by omega
      subst this
      rw [(K.put_other _ _ (show j ≠ S.length by omega)).1, (K.put_same _ _ _).1] at e
      have := lt j hj'; omega
    · omega

/-- A draw. -/
theorem Sim.drew {base : Bs} {w0 : World} {K : Ctx} {S : Mem} {w : World} (h : Sim base w0 K S w) : Sim base w0 K S w.drew ∧ Stp K S w K S w.drew :=
  ⟨⟨fun i B hB => (h.blk i B hB).mono (.refl K S) rfl rfl rfl, h.inj, h.below.drew, h.hb, h.door⟩,
    ⟨.refl K S, rfl, rfl, rfl, Nat.le_refl _, fun _ _ _ => rfl, fun _ B' h => .inl ⟨B', h, id, rfl⟩⟩⟩
end Go.Proofs.YtmocapahlcaapaaGreatDoor

namespace Go.Proofs.YtmocapahlcaapaaGreatDoor
set_option linter.unusedSimpArgs false
set_option linter.unusedVariables false
open Go.RowKit

theorem Sim.load {base : Bs} {w0 : World} {K : Ctx} {S : Mem} {w : World} (h : Sim base w0 K S w) {i v : Nat} {cs : List AV} {o : Option Nat} {r : Bool} (hB : S[i]? = some (.cells cs v o r))
    {k : Nat} (hk : k < cs.length) : ∃ x, w.cell? ⟨K.μ i, k, none⟩ = some x ∧ VR K S (cs.getD k .u) x := by
  obtain ⟨c, et, fz, h1, h2, h3, h4, h5, h6⟩ := h.blk i _ hB
  have hk' : k < c.size := by omega
  refine ⟨c.getD k undef, ?_, h5 k hk⟩
  unfold World.cell?
  simp only [h1, Option.isSome_none, Bool.false_eq_true, if_false]
  rw [Array.getElem?_eq_getElem hk', Array.getD, dif_pos hk']
  rfl

theorem Ext.set (K : Ctx) (S : Mem) (i : Nat) (B B' : Blk) (hB : S[i]? = some B) (hv : B'.ver = B.ver) (ho : B'.opn = B.opn) : Ext K S K (S.set i B') := by
  refine ⟨by simp, fun j C hC => ?_⟩
  by_cases e : j = i
  · subst e
    have hj : j < S.length := (List.getElem?_eq_some_iff.1 hB).1
    rw [hB] at hC; obtain rfl := Option.some.inj hC
    exact ⟨B', by simp [hj], by omega, fun _ => ⟨rfl, rfl, ho⟩⟩
  · exact ⟨C, by rw [List.getElem?_set_ne (Ne.symm e)]; exact hC, Nat.le_refl _, fun _ => ⟨rfl, rfl, rfl⟩⟩

theorem heap_setCell_same' (w : World) (a : Addr) (v : Value) (c : Array Value) (et : TypeId) (fz : Nat × Nat) (hs : a.spot = none) (h : w.heap[a.block]? = some (.cells c et fz)) :
    (w.setCell a v).heap[a.block]? = some (.cells (c.setIfInBounds a.off v) et fz) := by
  simp [World.setCell, Array.getElem?_modify, h, hs]

theorem getD_set_self {cs : List AV} {k : Nat} {x : AV} (h : k < cs.length) : (cs.set k x).getD k .u = x := by
  simp [List.getD_eq_getElem?_getD, h]
theorem getD_set_ne {cs : List AV} {k j : Nat} {x : AV} (h : j ≠ k) : (cs.set k x).getD j .u = cs.getD j .u := by
  simp only [List.getD_eq_getElem?_getD, List.getElem?_set_ne (Ne.symm h)]

/-- One cell turns. -/
theorem Sim.set1 {base : Bs} {w0 : World} {K : Ctx} {S : Mem} {w : World} (h : Sim base w0 K S w) {i v : Nat} {cs : List AV} {o : Option Nat} (hB : S[i]? = some (.cells cs v o true))
    {k : Nat} (hk : k < cs.length) {x : AV} {x' : Value} (hx : VR K S x x') :
    w.frozen? ⟨K.μ i, k, none⟩ = false ∧ Sim base w0 K (S.set i (.cells (cs.set k x) v o true)) (w.setCell ⟨K.μ i, k, none⟩ x') ∧ Stp K S w K (S.set i (.cells (cs.set k x) v o true)) (w.setCell ⟨K.μ i, k, none⟩ x') := by
  obtain ⟨c, et, fz, h1, h2, h3, h4, h5, h6⟩ := h.blk i _ hB
  obtain ⟨h7, h8⟩ := h6 rfl
  have hil : i < S.length := (List.getElem?_eq_some_iff.1 hB).1
  have hE : Ext K S K (S.set i (.cells (cs.set k x) v o true)) := Ext.set K S i _ _ hB rfl rfl
  have hnew : (w.setCell ⟨K.μ i, k, none⟩ x').heap[K.μ i]? = some (.cells (c.setIfInBounds k x') et fz) := heap_setCell_same' w ⟨K.μ i, k, none⟩ x' c et fz rfl h1
  have hold : ∀ b, b ≠ K.μ i → (w.setCell ⟨K.μ i, k, none⟩ x').heap[b]? = w.heap[b]? := fun b hb => Below.heap_setCell w ⟨K.μ i, k, none⟩ x' b hb
  have hs : Stp K S w K (S.set i (.cells (cs.set k x) v o true)) (w.setCell ⟨K.μ i, k, none⟩ x') := by
    refine ⟨hE, rfl, rfl, rfl, by simp, fun b hb hn => hold b fun e => hn i _ hB rfl e.symm, fun j B' hB' => ?_⟩
    by_cases e : j = i
    · subst e; exact .inl ⟨_, hB, fun _ => rfl, rfl⟩
    · rw [List.getElem?_set_ne (Ne.symm e)] at hB'
      exact .inl ⟨B', hB', id, rfl⟩
  refine ⟨?_, ⟨fun j B' hB' => ?_, fun a b ha hb e => ?_, h.step_below hs, Nat.le_trans h.hb hs.size, h.door⟩, hs⟩
  · unfold World.frozen?
    simp only [h1]
    have := h8 k (Nat.lt_of_lt_of_le (by omega) (endOf_ge _ _))
    simpa using this
  · by_cases e : j = i
    · subst e
      simp only [List.getElem?_set_self hil, Option.some.injEq] at hB'
      subst hB'
      refine ⟨_, et, fz, hnew, by simpa using h2, by simpa using h3, fun e => by simpa using h4 e, fun m hm => ?_, fun _ => ⟨h7, fun q hq => h8 q (by simpa using hq)⟩⟩
      simp only [List.length_set] at hm
      by_cases e : m = k
      · subst e
        rw [getD_set_self hm]
        have : (c.setIfInBounds m x').getD m undef = x' := by
          simp [Array.getD, show m < c.size by omega]
        rw [this]; exact hx.mono hE
      · rw [getD_set_ne e]
        have : (c.setIfInBounds k x').getD m undef = c.getD m undef := by
          simp only [Array.getD_eq_getD_getElem?, Array.getElem?_setIfInBounds_ne (Ne.symm e)]
        rw [this]; exact (h5 m hm).mono hE
    · rw [List.getElem?_set_ne (Ne.symm e)] at hB'
      have hjl : j < S.length := (List.getElem?_eq_some_iff.1 hB').1
      exact (h.blk j B' hB').mono hE rfl rfl (hold _ fun e' => e (h.inj j i hjl hil e'))
  · simp only [List.length_set] at ha hb
    exact h.inj a b ha hb e

/-- A row of cells turns, one by one. -/
def setList (cs : List AV) (off : Nat) : List AV → List AV
  | [] => cs
  | x :: r => setList (cs.set off x) (off + 1) r

/-- A row of cells turns at once. -/
def splice (cs : List AV) (off : Nat) (xs : List AV) : List AV := cs.take off ++ (xs ++ cs.drop (off + xs.length))

theorem setList_eq : ∀ (xs : List AV) (cs : List AV) (off : Nat), off + xs.length ≤ cs.length → setList cs off xs = splice cs off xs
  | [], cs, off, _ => by simp [setList, splice]
  | x :: r, cs, off, h => by
    simp only [List.length_cons] at h
    rw [setList, setList_eq r (cs.set off x) (off + 1) (by simp; omega)]
    unfold splice
    have h1 : (cs.set off x).take (off + 1) = cs.take off ++ [x] := by
      rw [List.take_succ_eq_append_getElem (by simp; omega), List.take_set_of_le (Nat.le_refl _)]
      simp
    have h2 : (cs.set off x).drop (off + 1 + r.length) = cs.drop (off + (x :: r).length) := by
      rw [List.drop_set_of_lt (by omega)]
      congr 1
      simp; omega
    rw [h1, h2]
    simp

/-- A value of one cell. -/
def AV.one : AV → Bool
  | .u | .ud | .ag _ | .tu _ => false
  | _ => true

theorem VR.one {K : Ctx} {S : Mem} {x : AV} {v : Value} (h : VR K S x v) (h1 : x.one = true) : (∀ c, v ≠ .agg c) ∧ (∀ c, v ≠ .tuple c) := by
  cases h <;> first | (simp [AV.one] at h1; done) | exact ⟨fun c e => (by cases e), fun c e => (by cases e)⟩

theorem run_store_one {P : Program} {w : World} {a : Addr} {v u : Value} (hv : (∀ c, v ≠ .agg c) ∧ (∀ c, v ≠ .tuple c)) (hc : w.cell? a = some u) (hf : w.frozen? a = false) :
    (store a v).run P w = .ok () (w.setCell a v) := by
  unfold store
  cases v <;> first | exact absurd rfl (hv.1 _) | exact absurd rfl (hv.2 _) | simp [Sem.run, hc, hf]

theorem run_bind {α β : Type} {P : Program} (s : Sem α) (f : α → Sem β) (w : World) : (s >>= f).run P w = match s.run P w with | .ok x w' => (f x).run P w' | .halt h w' => .halt h w' := by
  rw [Sem.run_bind]; cases s.run P w <;> rfl

theorem add_eq (b o n : Nat) : (⟨b, o, none⟩ : Addr).add n = ⟨b, o + n, none⟩ := by
  unfold Addr.add; split <;> simp_all

theorem Sim.storeCells {base : Bs} {w0 : World} {K : Ctx} {P : Program} : ∀ (xs : List AV) (xs' : List Value) (S : Mem) (w : World) (i v : Nat) (cs : List AV) (o : Option Nat) (off j : Nat), Sim base w0 K S w →
    S[i]? = some (.cells cs v o true) → off + j + xs.length ≤ cs.length → xs.length = xs'.length → (∀ k, k < xs.length → VR K S (xs.getD k .u) (xs'.getD k undef)) → xs.all AV.one = true →
    ∃ w', (Go.storeCells ⟨K.μ i, off, none⟩ xs' j).run P w = .ok () w' ∧ Sim base w0 K (S.set i (.cells (setList cs (off + j) xs) v o true)) w' ∧ Stp K S w K (S.set i (.cells (setList cs (off + j) xs) v o true)) w'
  | [], [], S, w, i, v, cs, o, off, j, h, hB, hl, he, hx, h1 => by
    have hS : S.set i (.cells cs v o true) = S := by
      have hi := (List.getElem?_eq_some_iff.1 hB)
      obtain ⟨hi, e⟩ := hi
      rw [← e]; simp
    refine ⟨w, by simp [Go.storeCells, Sem.run, pure], ?_, ?_⟩
    · rw [setList, hS]; exact h
    · rw [setList, hS]; exact .refl K S w
  | x :: r, x' :: r', S, w, i, v, cs, o, off, j, h, hB, hl, he, hx, h1 => by
    simp only [List.length_cons] at hl he
    simp only [List.all_cons, Bool.and_eq_true] at h1
    have hx0 : VR K S x x' := by simpa using hx 0 (by simp)
    obtain ⟨hf, hs, hst⟩ := h.set1 hB (k := off + j) (by omega) hx0
    obtain ⟨u, hu, _⟩ := h.load hB (k := off + j) (by omega)
    have hil : i < S.length := (List.getElem?_eq_some_iff.1 hB).1
    obtain ⟨w', hrun, hs', hst'⟩ := Sim.storeCells r r' (S.set i (.cells (cs.set (off + j) x) v o true)) (w.setCell ⟨K.μ i, off + j, none⟩ x') i v (cs.set (off + j) x) o off (j + 1) hs
      (by simp [hil]) (by simp; omega) (by omega) (fun k hk => by
        have := hx (k + 1) (by simp; omega)
        simp only [List.getD_cons_succ] at this
        exact this.mono hst.ext) h1.2
    refine ⟨w', ?_, ?_, ?_⟩
    · rw [Go.storeCells, run_bind, add_eq, run_store_one (hx0.one h1.1) hu hf]
      exact hrun
    · rw [setList]; simpa [Nat.add_assoc] using hs'
    · rw [setList]; simpa [Nat.add_assoc] using hst.trans hst'
  | [], _ :: _, _, _, _, _, _, _, _, _, _, _, _, he, _, _ => by simp at he
  | _ :: _, [], _, _, _, _, _, _, _, _, _, _, _, he, _, _ => by simp at he
end Go.Proofs.YtmocapahlcaapaaGreatDoor

namespace Go.Proofs.YtmocapahlcaapaaGreatDoor
set_option linter.unusedSimpArgs false
set_option linter.unusedVariables false
open Go.RowKit

/-- An operand. -/
inductive X where
  | t (n : Nat)
  | c (v : AV)

def X.ev (e : Env) : X → AV
  | .t n => e.get n
  | .c v => v

/-- The constants of the code. -/
def aconst : Value → Option AV
  | .bool x => some (.b x)
  | .int k n => some (.i k n)
  | .string s => some (.s s.data.toList)
  | .pointer none => some .pn
  | .slice none 0 0 => some .sn
  | .map none => some .mn
  | .nilFunc => some .nf
  | .nilIface => some .ni
  | .iface t (.int k n) => some (.it t (.i k n))
  | .iface t (.string s) => some (.it t (.s s.data.toList))
  | _ => none

theorem VR.string {K : Ctx} {S : Mem} (s : ByteArray) : VR K S (.s s.data.toList) (.string s) := by
  have h := VR.s (K := K) (S := S) s.data.toList
  rw [Array.toArray_toList] at h
  exact h

theorem aconst_ok {K : Ctx} {S : Mem} {v : Value} {x : AV} (h : aconst v = some x) : VR K S x v := by
  unfold aconst at h
  split at h <;> first | (injection h with h; subst h; first | exact .b _ | exact .i _ _ | exact VR.string _ | exact .pn | exact .sn | exact .mn | exact .nf | exact .ni | exact .it _ _ _ (.i _ _) | exact .it _ _ _ (VR.string _)) | cases h

def compX : Operand → Option X
  | .tmp t => some (.t t)
  | .const v => (aconst v).map .c
  | .global _ => none
  | .func f => some (.c (.f (.func f) [] []))

/-- The frame's slots. -/
structure ER (K : Ctx) (S : Mem) (n : Nat) (e : Env) (a : Act) : Prop where
  size : a.tmps.size = n
  slot : ∀ t, VR K S (e.get t) (a.tmps.getD t undef)

theorem ER.mono {K K' : Ctx} {S S' : Mem} {n : Nat} {e : Env} {a : Act} (hE : Ext K S K' S') (h : ER K S n e a) : ER K' S' n e a := ⟨h.size, fun t => (h.slot t).mono hE⟩

theorem compX_ok {K : Ctx} {S : Mem} {n : Nat} {e : Env} {a : Act} {o : Operand} {x : X} (h : compX o = some x) (hr : ER K S n e a) : VR K S (x.ev e) (a.eval o) := by
  cases o with
  | tmp t => simp only [compX, Option.some.injEq] at h; subst h; exact hr.slot t
  | const v =>
    simp only [compX, Option.map_eq_some_iff] at h
    obtain ⟨y, hy, rfl⟩ := h
    exact aconst_ok hy
  | global g => simp [compX] at h
  | func f =>
    simp only [compX, Option.some.injEq] at h; subst h
    exact .f _ _ _ _ _ rfl rfl (fun k => by simp [X.ev]; exact .u _) (fun k => by simp; exact .u _)

theorem ER.put {K : Ctx} {S : Mem} {n : Nat} {e : Env} {a : Act} {x : AV} {v : Value} (hr : ER K S n e a) (hx : VR K S x v) (t : Nat) (ht : t < n) : ER K S n ((t, x) :: e) (a.put (some t) v) := by
  refine ⟨by simp [Act.put, hr.size], fun k => ?_⟩
  have hsz := hr.size
  by_cases hk : t = k
  · subst hk
    have : Env.get ((t, x) :: e) t = x := by simp [Env.get]
    rw [this]
    have : (a.put (some t) v).tmps.getD t undef = v := by simp [Act.put, Array.getD, hsz, ht]
    rw [this]; exact hx
  · have hb : Nat.beq t k = false := by
      cases hb : Nat.beq t k with
      | false => rfl
      | true => exact absurd (Nat.eq_of_beq_eq_true hb) hk
    have : Env.get ((t, x) :: e) k = e.get k := by simp [Env.get, hb]
    rw [this]
    have : (a.put (some t) v).tmps.getD k undef = a.tmps.getD k undef := by
      simp only [Act.put, Array.getD_eq_getD_getElem?, Array.getElem?_setIfInBounds_ne hk]
    rw [this]; exact hr.slot k

/-- What an operation that is carried out in the world 'w' must come to. -/
def Good (base : Bs) (w0 : World) (K : Ctx) (S : Mem) (w : World) (x : AV) (S' : Mem) (r : Result Next) : Prop :=
  ∃ K' w' v, (r = .ok (.value v) w' ∨ (r = .ok .skip w' ∧ v = undef)) ∧ VR K' S' x v ∧ Sim base w0 K' S' w' ∧ Stp K S w K' S' w'

section
variable {P : Program} {base : Bs} {w0 : World} {K : Ctx} {S : Mem} {w : World}

theorem Good.same (h : Sim base w0 K S w) {x : AV} {v : Value} {r : Result Next} (hr : r = .ok (.value v) w) (hx : VR K S x v) : Good base w0 K S w x S r :=
  ⟨K, w, v, .inl hr, hx, h, .refl K S w⟩

/-! ### The type table -/
theorem run_underlying' {t : TypeId} {d : TypeDesc} (h : P.underlying t = some d) : (underlying t).run P w = .ok d w := by
  simp [underlying, h]
theorem run_typeInfo' {t : TypeId} {i : TypeInfo} (h : P.info? t = some i) : (typeInfo t).run P w = .ok i w := by
  simp [typeInfo, h]
theorem run_zeroValue' {t : TypeId} {i : TypeInfo} {z : Value} (h : P.info? t = some i) (hz : i.zero = some z) : (zeroValue t).run P w = .ok z w := by
  simp [zeroValue, run_typeInfo' h, hz]
theorem run_sizeOf' {t : TypeId} {i : TypeInfo} (h : P.info? t = some i) : (sizeOf t).run P w = .ok i.size w := by
  simp [sizeOf, run_typeInfo' h]

/-- Is it a struct or an array? -/
def aggB : TypeDesc → Bool
  | .struct _ | .array _ _ => true
  | _ => false
theorem run_isAgg' {t : TypeId} {d : TypeDesc} (h : P.underlying t = some d) : (isAgg t).run P w = .ok (aggB d) w := by
  simp only [isAgg, Sem.run_bind, run_underlying' h, Result.andThen_ok]
  cases d <;> rfl

/-- Loads of a type: 'some n': n cells, one struct or array; 'none': one cell. -/
def shapeOf (P : Program) (t : TypeId) : Option (Option Nat) :=
  match P.underlying t, P.info? t with
  | some d, some i => some (if aggB d then some i.size else none)
  | _, _ => none

/-- The zero cells of a type. -/
def zeroOf (P : Program) (t : TypeId) : Option (List AV) :=
  match P.info? t with
  | some i => match i.zero with
    | some z => z.cells.toList.mapM aconst
    | none => none
  | none => none

theorem mapM_ok {α β : Type} {f : α → Option β} : ∀ {l : List α} {r : List β}, l.mapM f = some r → r.length = l.length ∧ ∀ k (h : k < l.length) (h' : k < r.length), f l[k] = some r[k]
  | [], r, h => by simp at h; subst h; simp
  | a :: l, r, h => by
    simp only [List.mapM_cons, Option.bind_eq_bind, Option.bind_eq_some_iff, Option.pure_def, Option.some.injEq] at h
    obtain ⟨b, hb, bs, hbs, rfl⟩ := h
    obtain ⟨h1, h2⟩ := mapM_ok hbs
    refine ⟨by simp [h1], fun k hk hk' => ?_⟩
    cases k with
    | zero => exact hb
    | succ k => exact h2 k (by simpa using hk) (by simpa using hk')

theorem zeroOf_ok {t : TypeId} {z : List AV} (h : zeroOf P t = some z) : ∃ i v, P.info? t = some i ∧ i.zero = some v ∧ z.length = v.cells.size ∧ ∀ K S k, k < z.length → VR K S (z.getD k .u) (v.cells.getD k undef) := by
  unfold zeroOf at h
  split at h
  · rename_i i hi
    split at h
    · rename_i v hv
      obtain ⟨h1, h2⟩ := mapM_ok h
      refine ⟨i, v, hi, hv, by simpa using h1, fun K S k hk => ?_⟩
      have hk' : k < v.cells.toList.length := by omega
      have := aconst_ok (K := K) (S := S) (h2 k hk' hk)
      have e1 : z.getD k .u = z[k] := by simp [List.getD_eq_getElem?_getD, hk]
      have e2 : v.cells.getD k undef = v.cells.toList[k] := by
        have : k < v.cells.size := by simpa using hk'
        simp [Array.getD, this]
      rw [e1, e2]; exact this
    · cases h
  · cases h

/-- A new row of cells. -/
theorem good_row (h : Sim base w0 K S w) (cs : List AV) (c : Array Value) (et : TypeId) (hl : cs.length = c.size) (hx : ∀ k, k < cs.length → VR K S (cs.getD k .u) (c.getD k undef)) :
    ∃ K', Sim base w0 K' (S ++ [.cells cs 0 none true]) (w.alloc (.cells c et)) ∧ Stp K S w K' (S ++ [.cells cs 0 none true]) (w.alloc (.cells c et)) ∧
      K'.μ S.length = w.heap.size ∧ K'.σ S.length = c.size := by
  obtain ⟨h1, h2⟩ := h.alloc (.cells cs 0 none true) (.cells c et) c.size fun K' S' w' hE e1 e2 e3 hb =>
    ⟨c, et, (0, 0), by rw [e1]; exact e3, by rw [e2], by omega, fun _ => by omega, fun k hk => (hx k hk).mono hE, fun _ => ⟨by rw [e1]; exact hb, fun o _ => by simp⟩⟩
  exact ⟨_, h1, h2, (K.put_same _ _ _).1, (K.put_same _ _ _).2⟩

theorem new_at (S : Mem) (B : Blk) : (S ++ [B])[S.length]? = some B := by simp

/-! ### A new variable -/
theorem good_fresh (h : Sim base w0 K S w) {t : TypeId} {z : List AV} (hz : zeroOf P t = some z) :
    Good base w0 K S w (.p S.length 0 0) (S ++ [.cells z 0 none true]) ((do let v ← Instr.alloc t true (.tuple #[]); pure (Next.value v) : Sem Next).run P w) := by
  obtain ⟨i, v, hi, hv, hl, hx⟩ := zeroOf_ok hz
  obtain ⟨K', h1, h2, h3, h4⟩ := good_row h z v.cells t hl (fun k hk => hx K S k hk)
  refine ⟨K', _, .pointer (some ⟨w.heap.size, 0, none⟩), .inl ?_, .p _ _ _ _ _ (new_at S _) (Nat.le_refl _) (fun _ => by rw [h3]), h1, h2⟩
  simp [Instr.alloc, run_zeroValue' hi hv, newVar, newRow]

/-- The cells of a value. -/
def AV.cells : AV → Option (List AV)
  | .u => none
  | .ud => none
  | .tu _ => none
  | .ag cs => some cs
  | x => some [x]

theorem VR.cells {x : AV} {v : Value} {cs : List AV} (h : VR K S x v) (hc : x.cells = some cs) : cs.length = v.cells.size ∧ ∀ k, k < cs.length → VR K S (cs.getD k .u) (v.cells.getD k undef) := by
  have one : ∀ (x : AV) (v : Value), VR K S x v → ([x] : List AV).length = (#[v] : Array Value).size ∧ ∀ k, k < ([x] : List AV).length → VR K S (([x] : List AV).getD k .u) ((#[v] : Array Value).getD k undef) := by
    intro x v h
    refine ⟨rfl, fun k hk => ?_⟩
    obtain rfl : k = 0 := by simp at hk; omega
    exact h
  cases h with
  | u v => simp [AV.cells] at hc
  | ud => simp [AV.cells] at hc
  | tu x x' hx h => simp [AV.cells] at hc
  | ag x x' hx h => simp only [AV.cells, Option.some.injEq] at hc; subst hc; exact ⟨hx, fun k _ => h k⟩
  | b x => simp only [AV.cells, Option.some.injEq] at hc; subst hc; exact one _ _ (.b x)
  | i k n => simp only [AV.cells, Option.some.injEq] at hc; subst hc; exact one _ _ (.i k n)
  | s l => simp only [AV.cells, Option.some.injEq] at hc; subst hc; exact one _ _ (.s l)
  | pn => simp only [AV.cells, Option.some.injEq] at hc; subst hc; exact one _ _ .pn
  | p i off v a B h hv ha => simp only [AV.cells, Option.some.injEq] at hc; subst hc; exact one _ _ (.p i off v a B h hv ha)
  | sn => simp only [AV.cells, Option.some.injEq] at hc; subst hc; exact one _ _ .sn
  | se a c => simp only [AV.cells, Option.some.injEq] at hc; subst hc; exact one _ _ (.se a c)
  | sl i off v len cap ex a c B h hv hl hcc he ha => simp only [AV.cells, Option.some.injEq] at hc; subst hc; exact one _ _ (.sl i off v len cap ex a c B h hv hl hcc he ha)
  | mn => simp only [AV.cells, Option.some.injEq] at hc; subst hc; exact one _ _ .mn
  | m i r B h hr => simp only [AV.cells, Option.some.injEq] at hc; subst hc; exact one _ _ (.m i r B h hr)
  | nf => simp only [AV.cells, Option.some.injEq] at hc; subst hc; exact one _ _ .nf
  | f fn x y x' y' hx hy h h' => simp only [AV.cells, Option.some.injEq] at hc; subst hc; exact one _ _ (.f fn x y x' y' hx hy h h')
  | y i r B h hr => simp only [AV.cells, Option.some.injEq] at hc; subst hc; exact one _ _ (.y i r B h hr)
  | ni => simp only [AV.cells, Option.some.injEq] at hc; subst hc; exact one _ _ .ni
  | it t x v h => simp only [AV.cells, Option.some.injEq] at hc; subst hc; exact one _ _ (.it t x v h)

theorem good_box (h : Sim base w0 K S w) {t : TypeId} {x : AV} {v : Value} {cs : List AV} (hx : VR K S x v) (hc : x.cells = some cs) :
    Good base w0 K S w (.p S.length 0 0) (S ++ [.cells cs 0 none true]) ((do let v ← Instr.box t v; pure (Next.value v) : Sem Next).run P w) := by
  obtain ⟨hl, hk⟩ := hx.cells hc
  obtain ⟨K', h1, h2, h3, h4⟩ := good_row h cs v.cells t hl hk
  refine ⟨K', _, .pointer (some ⟨w.heap.size, 0, none⟩), .inl ?_, .p _ _ _ _ _ (new_at S _) (Nat.le_refl _) (fun _ => by rw [h3]), h1, h2⟩
  simp [Instr.box, newVar, newRow]

/-! ### Loads -/
/-- The cells of a place. -/
def rowAt (S : Mem) (i off v n : Nat) : Option (List AV) :=
  match S[i]? with
  | some (.cells cs ver _ _) => if ver = v ∧ off + n ≤ cs.length then some ((cs.drop off).take n) else none
  | _ => none

theorem rowAt_ok (h : Sim base w0 K S w) {i off v n : Nat} {xs : List AV} (hr : rowAt S i off v n = some xs) :
    xs.length = n ∧ ∃ g : Nat → Value, (∀ j, j < n → w.cell? ((⟨K.μ i, off, none⟩ : Addr).add j) = some (g j)) ∧ ∀ j, j < n → VR K S (xs.getD j .u) (g j) := by
  unfold rowAt at hr
  split at hr
  · rename_i cs ver o r hB
    split at hr
    · rename_i hc
      obtain ⟨hv, hl⟩ := hc
      injection hr with hr
      subst hr
      refine ⟨by simp; omega, fun j => (w.cell? ⟨K.μ i, off + j, none⟩).getD undef, fun j hj => ?_, fun j hj => ?_⟩
      · obtain ⟨y, hy, _⟩ := h.load hB (k := off + j) (by omega)
        simp only [add_eq, hy, Option.getD_some]
      · obtain ⟨y, hy, hV⟩ := h.load hB (k := off + j) (by omega)
        have : ((cs.drop off).take n).getD j .u = cs.getD (off + j) .u := by
          simp [List.getD_eq_getElem?_getD, List.getElem?_take, hj]
        simp only [hy, Option.getD_some, this]; exact hV
    · cases hr
  · cases hr

theorem VR.addr {i off v : Nat} {x : Value} (h : VR K S (.p i off v) x) {B : Blk} (hB : S[i]? = some B) (hv : B.ver = v) : x = .pointer (some ⟨K.μ i, off, none⟩) := by
  cases h with
  | p i off v a B' hB' hle ha =>
    rw [hB] at hB'; obtain rfl := Option.some.inj hB'
    rw [ha hv]

theorem rowAt_ver {i off v n : Nat} {xs : List AV} (hr : rowAt S i off v n = some xs) : ∃ B, S[i]? = some B ∧ B.ver = v := by
  unfold rowAt at hr
  split at hr
  · rename_i cs ver o r hB
    split at hr
    · rename_i hc; exact ⟨_, hB, hc.1⟩
    · cases hr
  · cases hr

def ldCells (S : Mem) (n : Option Nat) : AV → Option AV
  | .p i off v => match n with
    | some n => (rowAt S i off v n).map .ag
    | none => match rowAt S i off v 1 with
      | some [x] => some x
      | _ => none
  | _ => none

theorem range_getD (n : Nat) (g : Nat → Value) (k : Nat) (hk : k < n) : (((List.range n).map g).toArray).getD k undef = g k := by
  simp [Array.getD, hk]

theorem VR.agg {xs : List AV} {n : Nat} {g : Nat → Value} (hl : xs.length = n) (hg : ∀ j, j < n → VR K S (xs.getD j .u) (g j)) : VR K S (.ag xs) (.agg ((List.range n).map g).toArray) := by
  refine .ag _ _ (by simp [hl]) fun k => ?_
  by_cases hk : k < n
  · rw [range_getD n g k hk]; exact hg k hk
  · have : xs.getD k .u = .u := by simp [List.getD_eq_getElem?_getD, List.getElem?_eq_none (show xs.length ≤ k by omega)]
    rw [this]; exact .u _

theorem good_load (h : Sim base w0 K S w) {t : TypeId} {n : Option Nat} {x y : AV} {v : Value} (hs : shapeOf P t = some n) (hx : VR K S x v) (hl : ldCells S n x = some y) :
    Good base w0 K S w y S ((do let v ← Instr.loadAt t v; pure (Next.value v) : Sem Next).run P w) := by
  unfold shapeOf at hs
  split at hs
  · rename_i d inf hd hinf
    injection hs with hs
    unfold ldCells at hl
    split at hl
    · rename_i i off ver
      split at hl
      · rename_i n'
        obtain ⟨xs, hxs, rfl⟩ := Option.map_eq_some_iff.1 hl
        obtain ⟨B, hB, hv⟩ := rowAt_ver hxs
        obtain rfl := hx.addr hB hv
        obtain ⟨hlen, g, hg, hV⟩ := rowAt_ok h hxs
        have hagg : aggB d = true := by
          cases e : aggB d with
          | true => rfl
          | false => rw [e] at hs; cases hs
        simp only [hagg, if_true, Option.some.injEq] at hs
        subst hs
        refine Good.same h ?_ (VR.agg hlen hV)
        simp [Instr.loadAt, Instr.sureAddr, loadVar, run_isAgg' hd, hagg, run_sizeOf' hinf, run_loadCells w _ _ g hg]
      · have hagg : aggB d = false := by
          cases e : aggB d with
          | false => rfl
          | true => rw [e] at hs; cases hs
        split at hl
        · rename_i z hz
          injection hl with hl
          subst hl
          obtain ⟨B, hB, hv⟩ := rowAt_ver hz
          obtain rfl := hx.addr hB hv
          obtain ⟨hlen, g, hg, hV⟩ := rowAt_ok h hz
          have hg0 := hg 0 (by omega)
          have hV0 := hV 0 (by omega)
          have hadd : (⟨K.μ i, off, none⟩ : Addr).add 0 = ⟨K.μ i, off, none⟩ := rfl
          rw [hadd] at hg0
          refine Good.same (v := g 0) h ?_ (by simpa using hV0)
          simp [Instr.loadAt, Instr.sureAddr, loadVar, run_isAgg' hd, hagg, hg0]
        · cases hl
    · cases hl
  · cases hs

/-! ### Stores -/
def stCells (S : Mem) (n : Nat) (x y : AV) : Option Mem :=
  match x, y.cells with
  | .p i off v, some ys => match S[i]? with
    | some (.cells cs ver o true) => if ver = v ∧ ys.length = n ∧ off + n ≤ cs.length ∧ ys.all AV.one = true then some (S.set i (.cells (splice cs off ys) v o true)) else none
    | _ => none
  | _, _ => none

theorem good_store (h : Sim base w0 K S w) {t : TypeId} {inf : TypeInfo} (hinf : P.info? t = some inf) {x y : AV} {a v : Value} {S' : Mem} (hx : VR K S x a) (hy : VR K S y v) (hs : stCells S inf.size x y = some S') :
    Good base w0 K S w .u S' ((do Instr.storeAt t a v; pure Next.skip : Sem Next).run P w) := by
  unfold stCells at hs
  split at hs
  · rename_i i off ver ys hys
    split at hs
    · rename_i cs ver' o hB
      split at hs
      · rename_i hc
        obtain ⟨rfl, hn, hle, hone⟩ := hc
        injection hs with hs
        subst hs
        obtain rfl := hx.addr hB rfl
        obtain ⟨hcl, hcv⟩ := hy.cells hys
        obtain ⟨w', hrun, hS', hst⟩ := Sim.storeCells (P := P) ys v.cells.toList S w i ver' cs o off 0 h hB (by omega) (by simpa using hcl)
          (fun k hk => by
            have := hcv k hk
            have hk' : k < v.cells.size := by omega
            have e : v.cells.toList.getD k undef = v.cells.getD k undef := by simp [Array.getD, hk']
            rw [e]; exact this) hone
        simp only [Nat.add_zero] at hS' hst
        rw [setList_eq _ _ _ (by omega)] at hS' hst
        refine ⟨K, w', undef, .inr ⟨?_, rfl⟩, .u _, hS', hst⟩
        simp [Instr.storeAt, Instr.sureAddr, storeVar, run_sizeOf' hinf, ← hcl, hn, hrun]
      · cases hs
    · cases hs
  · cases hs

/-! ### Plain operations -/
def unV (op : UnOp) : AV → Option AV
  | .i k n => match op with
    | .neg => some (.i k (k.wrap (0 - n)))
    | .xor => some (.i k (k.wrap ((BitVec.ofInt k.bits (if k.signed then -1 else k.max)) ^^^ (BitVec.ofInt k.bits n)).toNat))
    | _ => none
  | .b x => match op with
    | .not => some (.b (!x))
    | _ => none
  | _ => none

theorem good_un (h : Sim base w0 K S w) {op : UnOp} {x y : AV} {v : Value} (hx : VR K S x v) (hy : unV op x = some y) :
    Good base w0 K S w y S ((do let v ← Op.unary op v; pure (Next.value v) : Sem Next).run P w) := by
  unfold unV at hy
  split at hy
  · cases hx
    split at hy
    · injection hy with hy; subst hy
      exact Good.same h (by simp [Op.unary, Op.intArith]) (.i _ _)
    · injection hy with hy; subst hy
      exact Good.same h (by simp [Op.unary, Op.intBits]) (.i _ _)
    · cases hy
  · cases hx
    split at hy
    · injection hy with hy; subst hy
      exact Good.same h (by simp [Op.unary]) (.b _)
    · cases hy
  · cases hy

def nilV : AV → Option AV
  | .p i off v => some (.p i off v)
  | .f (.func k) a b => some (.f (.func k) a b)
  | .y i => some (.y i)
  | _ => none

theorem good_nil (h : Sim base w0 K S w) {x y : AV} {o : Oper} {ρ : Operand → Value} {z : Operand} (ho : o.op = .nilCheck z) (hx : VR K S x (ρ z)) (hy : nilV x = some y) :
    Good base w0 K S w y S ((execOp ρ o).run P w) := by
  unfold nilV at hy
  split at hy
  · injection hy with hy; subst hy
    refine Good.same (v := ρ z) h ?_ hx
    obtain ⟨a, e⟩ : ∃ a, ρ z = .pointer (some a) := by
      generalize ρ z = v at hx
      cases hx; exact ⟨_, rfl⟩
    simp [execOp, ho, e]
  · rename_i k a b
    injection hy with hy; subst hy
    refine Good.same (v := ρ z) h ?_ hx
    obtain ⟨a, b, e⟩ : ∃ a b, ρ z = .func (.func k) a b := by
      generalize ρ z = v at hx
      cases hx; exact ⟨_, _, rfl⟩
    simp [execOp, ho, e]
  · injection hy with hy; subst hy
    refine Good.same (v := ρ z) h ?_ hx
    obtain ⟨a, e⟩ : ∃ a, ρ z = .func (.yield a) #[] #[] := by
      generalize ρ z = v at hx
      cases hx; exact ⟨_, rfl⟩
    simp [execOp, ho, e]
  · cases hy

def extV (k : Nat) : AV → Option AV
  | .tu xs => xs[k]?
  | _ => none
theorem good_ext (h : Sim base w0 K S w) {k : Nat} {x y : AV} {v : Value} (hx : VR K S x v) (hy : extV k x = some y) :
    Good base w0 K S w y S ((do let v ← Instr.extract v k; pure (Next.value v) : Sem Next).run P w) := by
  unfold extV at hy
  split at hy
  · rename_i x
    cases hx with
    | tu _ x' hl hv =>
      have hk := (List.getElem?_eq_some_iff.1 hy)
      obtain ⟨hk, he⟩ := hk
      have := hv k
      have e1 : x.getD k .u = y := by simp [List.getD_eq_getElem?_getD, hy]
      have hk' : k < x'.size := by omega
      rw [e1] at this
      refine Good.same (v := x'.getD k undef) h ?_ this
      simp [Instr.extract, Array.getD, hk', Array.getElem?_eq_getElem hk']
  · cases hy

def toIntV (k : IntKind) : AV → Option AV
  | .i _ n => some (.i k (k.wrap n))
  | _ => none
theorem good_toInt (h : Sim base w0 K S w) {src dst : TypeId} {d : TypeDesc} {k : IntKind} (hs : P.underlying src = some d) (hd : P.underlying dst = some (.int k)) {x y : AV} {v : Value} (hx : VR K S x v) (hy : toIntV k x = some y) :
    Good base w0 K S w y S ((do let v ← convert src dst v; pure (Next.value v) : Sem Next).run P w) := by
  unfold toIntV at hy
  split at hy
  · cases hx
    injection hy with hy; subst hy
    exact Good.same h (by simp [convert, run_underlying' hs, run_underlying' hd, Conv.intToInt]) (.i _ _)
  · cases hy

def faddrV (off : Nat) : AV → Option AV
  | .p i o v => some (.p i (o + off) v)
  | _ => none

/-- A field of a struct that takes room. -/
def fieldOf (P : Program) (t : TypeId) (k : Nat) : Option (Field × TypeInfo) :=
  match P.underlying t with
  | some (.struct fs) => match fs[k]? with
    | some f => match P.info? f.type with
      | some i => if i.size = 0 then none else some (f, i)
      | none => none
    | none => none
  | _ => none

theorem fieldOf_ok {t : TypeId} {k : Nat} {f : Field} {i : TypeInfo} (h : fieldOf P t k = some (f, i)) : ∃ fs, P.underlying t = some (.struct fs) ∧ fs[k]? = some f ∧ P.info? f.type = some i ∧ i.size ≠ 0 := by
  unfold fieldOf at h
  split at h
  · rename_i fs hfs
    split at h
    · rename_i f' hf
      split at h
      · rename_i i' hi
        split at h
        · cases h
        · rename_i hne
          injection h with h
          injection h with h1 h2
          subst h1; subst h2
          exact ⟨fs, hfs, hf, hi, hne⟩
      · cases h
    · cases h
  · cases h

theorem VR.addr_off {i off v n : Nat} {x : Value} (h : VR K S (.p i off v) x) : ∃ a, x = .pointer (some a) ∧ VR K S (.p i (off + n) v) (.pointer (some (a.add n))) := by
  cases h with
  | p i off v a B hB hle ha =>
    exact ⟨a, rfl, .p _ _ _ _ B hB hle fun e => by rw [ha e, add_eq]⟩

theorem good_faddr (h : Sim base w0 K S w) {t : TypeId} {k : Nat} {f : Field} {i : TypeInfo} (hf : fieldOf P t k = some (f, i)) {x y : AV} {v : Value} (hx : VR K S x v) (hy : faddrV f.offset x = some y) :
    Good base w0 K S w y S ((do let v ← Instr.fieldAt t v k; pure (Next.value v) : Sem Next).run P w) := by
  obtain ⟨fs, h1, h2, h3, h4⟩ := fieldOf_ok hf
  unfold faddrV at hy
  split at hy
  · injection hy with hy; subst hy
    obtain ⟨a, rfl, hv⟩ := hx.addr_off (n := f.offset)
    refine Good.same h ?_ hv
    simp [Instr.fieldAt, run_underlying' h1, h2, Instr.sureAddr, fieldPlace, run_sizeOf' h3, h4]
  · cases hy

/-- A part of a struct or an array. -/
def partV (off : Nat) (n : Option Nat) (cs : List AV) : Option AV :=
  match n with
  | some n => if off + n ≤ cs.length then some (.ag ((cs.drop off).take n)) else none
  | none => cs[off]?

theorem run_part {t : TypeId} {n : Option Nat} (hs : shapeOf P t = some n) {cs : List AV} {cs' : Array Value} (hl : cs.length = cs'.size) (hv : ∀ k, VR K S (cs.getD k .u) (cs'.getD k undef)) {off : Nat} {y : AV}
    (hy : partV off n cs = some y) : ∃ v, (part t cs' off).run P w = .ok v w ∧ VR K S y v := by
  unfold shapeOf at hs
  split at hs
  · rename_i d inf hd hinf
    injection hs with hs
    unfold partV at hy
    split at hy
    · rename_i n'
      have hagg : aggB d = true := by
        cases e : aggB d with
        | true => rfl
        | false => rw [e] at hs; cases hs
      simp only [hagg, if_true, Option.some.injEq] at hs
      subst hs
      split at hy
      · rename_i hle
        injection hy with hy; subst hy
        refine ⟨.agg (cs'.extract off (off + inf.size)), by simp [part, run_isAgg' hd, hagg, run_sizeOf' hinf], .ag _ _ (by simp; omega) fun k => ?_⟩
        by_cases hk : k < inf.size
        · have e1 : ((cs.drop off).take inf.size).getD k .u = cs.getD (off + k) .u := by simp [List.getD_eq_getElem?_getD, List.getElem?_take, hk]
          have e2 : (cs'.extract off (off + inf.size)).getD k undef = cs'.getD (off + k) undef := by
            simp only [Array.getD_eq_getD_getElem?, Array.getElem?_extract]
            rw [if_pos (by omega)]
          rw [e1, e2]; exact hv (off + k)
        · have : ((cs.drop off).take inf.size).getD k .u = .u := by
            simp [List.getD_eq_getElem?_getD, List.getElem?_take, hk]
          rw [this]; exact .u _
      · cases hy
    · have hagg : aggB d = false := by
        cases e : aggB d with
        | false => rfl
        | true => rw [e] at hs; cases hs
      obtain ⟨hk, he⟩ := List.getElem?_eq_some_iff.1 hy
      have e1 : cs.getD off .u = y := by simp [List.getD_eq_getElem?_getD, hy]
      have hk' : off < cs'.size := by omega
      have := hv off
      rw [e1] at this
      refine ⟨cs'.getD off undef, ?_, this⟩
      simp [part, run_isAgg' hd, hagg, Array.getElem?_eq_getElem hk', Array.getD, hk']
  · cases hs

def fldV (off : Nat) (n : Option Nat) : AV → Option AV
  | .ag cs => partV off n cs
  | _ => none
theorem good_fld (h : Sim base w0 K S w) {t : TypeId} {k : Nat} {f : Field} {i : TypeInfo} (hf : fieldOf P t k = some (f, i)) {n : Option Nat} (hn : shapeOf P f.type = some n) {x y : AV} {v : Value} (hx : VR K S x v) (hy : fldV f.offset n x = some y) :
    Good base w0 K S w y S ((do let v ← Instr.field t v k; pure (Next.value v) : Sem Next).run P w) := by
  obtain ⟨fs, h1, h2, h3, h4⟩ := fieldOf_ok hf
  unfold fldV at hy
  split at hy
  · cases hx with
    | ag x x' hl hv =>
      obtain ⟨z, hz, hV⟩ := run_part (w := w) hn hl hv hy
      refine Good.same h ?_ hV
      simp [Instr.field, run_underlying' h1, h2, asAgg, hz]
  · cases hy
end
end Go.Proofs.YtmocapahlcaapaaGreatDoor

namespace Go.Proofs.YtmocapahlcaapaaGreatDoor
set_option linter.unusedSimpArgs false
set_option linter.unusedVariables false
open Go.RowKit

/-- Wrapping, without powers. -/
def wrapV : IntKind → Int → Int
  | .u8, n => n % 256
  | .u16, n => n % 65536
  | .u32, n => n % 4294967296
  | .u64, n => n % 18446744073709551616
  | .i8, n => (n + 128) % 256 - 128
  | .i16, n => (n + 32768) % 65536 - 32768
  | .i32, n => (n + 2147483648) % 4294967296 - 2147483648
  | .i64, n => (n + 9223372036854775808) % 18446744073709551616 - 9223372036854775808

theorem wrapV_eq (k : IntKind) (n : Int) : k.wrap n = wrapV k n := by
  cases k
  · simp [IntKind.wrap, IntKind.bits, IntKind.signed, wrapV]; split <;> omega
  · simp [IntKind.wrap, IntKind.bits, IntKind.signed, wrapV]; split <;> omega
  · simp [IntKind.wrap, IntKind.bits, IntKind.signed, wrapV]; split <;> omega
  · simp [IntKind.wrap, IntKind.bits, IntKind.signed, wrapV]; split <;> omega
  · simp [IntKind.wrap, IntKind.bits, IntKind.signed, wrapV]
  · simp [IntKind.wrap, IntKind.bits, IntKind.signed, wrapV]
  · simp [IntKind.wrap, IntKind.bits, IntKind.signed, wrapV]
  · simp [IntKind.wrap, IntKind.bits, IntKind.signed, wrapV]

def bitsV (k : IntKind) (op : BinOp) (a b : Int) : Option Int :=
  let x := (BitVec.ofInt k.bits a).toNat
  let y := (BitVec.ofInt k.bits b).toNat
  match op with
  | .and => some (wrapV k ((Nat.land x y : Nat) : Int))
  | .or => some (wrapV k ((Nat.lor x y : Nat) : Int))
  | .xor => some (wrapV k ((Nat.xor x y : Nat) : Int))
  | .andNot => some (wrapV k (((BitVec.ofInt k.bits a) &&& ~~~(BitVec.ofInt k.bits b)).toNat : Int))
  | _ => none

def intV (op : BinOp) (k : IntKind) (a b : Int) : Option AV :=
  match op with
  | .add => some (.i k (wrapV k (a + b)))
  | .sub => some (.i k (wrapV k (a - b)))
  | .mul => some (.i k (wrapV k (a * b)))
  | .quo => if b = 0 then none else some (.i k (wrapV k (a.tdiv b)))
  | .rem => if b = 0 then none else some (.i k (a.tmod b))
  | .eql => some (.b (a == b))
  | .neq => some (.b (a != b))
  | .lss => some (.b (decide (a < b)))
  | .leq => some (.b (decide (a ≤ b)))
  | .gtr => some (.b (decide (a > b)))
  | .geq => some (.b (decide (a ≥ b)))
  | .and => (bitsV k .and a b).map (.i k)
  | .or => (bitsV k .or a b).map (.i k)
  | .xor => (bitsV k .xor a b).map (.i k)
  | .andNot => (bitsV k .andNot a b).map (.i k)
  | _ => none

def shiftV (op : BinOp) (k : IntKind) (a : Int) (b : Int) : Option AV :=
  if b < 0 then none else
  let n := min b.toNat k.bits
  match op with
  | .shl => some (.i k (wrapV k (a * ((2 ^ n : Nat) : Int))))
  | .shr => some (.i k (a.fdiv ((2 ^ n : Nat) : Int)))
  | _ => none

def isShift : BinOp → Bool
  | .shl | .shr => true
  | _ => false

/-- What kind of type the operands have. -/
inductive TK where
  | int | bool | str | ptr | slice | map | func | iface
  deriving DecidableEq

def kindOf (P : Program) (t : TypeId) : Option TK :=
  match P.underlying t with
  | some (.int _) => some .int
  | some .bool => some .bool
  | some .string => some .str
  | some (.pointer _) => some .ptr
  | some (.slice _) => some .slice
  | some (.map _ _) => some .map
  | some (.func _ _ _) => some .func
  | some (.interface _) => some .iface
  | _ => none

def eqOp (op : BinOp) (x : Bool) : Option AV :=
  match op with
  | .eql => some (.b x)
  | .neq => some (.b (!x))
  | _ => none

def strV (op : BinOp) (a b : List UInt8) : Option AV :=
  match op with
  | .add => if a.length + b.length ≤ 4611686018427387904 then some (.s (a ++ b)) else none
  | .eql => some (.b (a == b))
  | .neq => some (.b (!(a == b)))
  | .lss => some (.b (Op.bytesLess a b))
  | .leq => some (.b (Op.bytesLess a b || a == b))
  | .gtr => some (.b (!(Op.bytesLess a b || a == b)))
  | .geq => some (.b (!(Op.bytesLess a b)))
  | _ => none

/-- Is it nil? -/
def nilness (tk : TK) (x : AV) : Option Bool :=
  match tk, x with
  | .ptr, .pn => some true
  | .ptr, .p _ _ _ => some false
  | .slice, .sn => some true
  | .slice, .sl .. => some false
  | .slice, .se => some false
  | .map, .mn => some true
  | .map, .m _ => some false
  | .func, .nf => some true
  | .func, .f .. => some false
  | .iface, .ni => some true
  | .iface, .it .. => some false
  | _, _ => none

/-- 'cst': one of the operands is a constant of the code. -/
def binV (tk : TK) (cst : Bool) (op : BinOp) (x y : AV) : Option AV :=
  match tk, x, y with
  | .int, .i k a, .i k' b => if isShift op then shiftV op k a b else if k = k' then intV op k a b else none
  | .str, .s a, .s b => strV op a b
  | .bool, .b a, .b b => eqOp op (a == b)
  | tk, x, y => match nilness tk x, nilness tk y with
    | some true, some b => if tk = .iface ∧ b = true ∧ cst = false then none else eqOp op b
    | some b, some true => eqOp op b
    | _, _ => none

section
variable {P : Program} {base : Bs} {w0 : World} {K : Ctx} {S : Mem} {w : World}

def isConst : Operand → Bool
  | .const _ => true
  | _ => false

theorem pow_cast (n : Nat) : ((2 ^ n : Nat) : Int) = (2 : Int) ^ n := by simp

theorem run_shift {op : BinOp} {k k' : IntKind} {a b : Int} {y : AV} {ops : BinOp} (hs : isShift op = true) (h : shiftV op k a b = some y) (t : TypeId) :
    ∃ v, (binOp op t (.int k a) (.int k' b)).run P w = .ok v w ∧ VR K S y v := by
  unfold shiftV at h
  split at h
  · cases h
  · rename_i hb
    cases op <;> simp [isShift] at hs
    · simp only [Option.some.injEq] at h; subst h
      refine ⟨_, ?_, .i _ _⟩
      simp [binOp, Op.shift, hb, wrapV_eq, pow_cast]
    · simp only [Option.some.injEq] at h; subst h
      refine ⟨_, ?_, .i _ _⟩
      simp [binOp, Op.shift, hb, pow_cast]

theorem run_int {op : BinOp} {k : IntKind} {a b : Int} {y : AV} (hs : isShift op = false) (h : intV op k a b = some y) (t : TypeId) :
    ∃ v, (binOp op t (.int k a) (.int k b)).run P w = .ok v w ∧ VR K S y v := by
  cases op <;> simp [isShift] at hs <;> simp only [intV] at h
  case add => injection h with h; subst h; exact ⟨_, by simp [binOp, Op.intArith, wrapV_eq], .i _ _⟩
  case sub => injection h with h; subst h; exact ⟨_, by simp [binOp, Op.intArith, wrapV_eq], .i _ _⟩
  case mul => injection h with h; subst h; exact ⟨_, by simp [binOp, Op.intArith, wrapV_eq], .i _ _⟩
  case quo =>
    split at h
    · cases h
    · rename_i hb; injection h with h; subst h; exact ⟨_, by simp [binOp, Op.intDiv, hb, wrapV_eq], .i _ _⟩
  case rem =>
    split at h
    · cases h
    · rename_i hb; injection h with h; subst h; exact ⟨_, by simp [binOp, Op.intDiv, hb], .i _ _⟩
  case eql => injection h with h; subst h; exact ⟨_, by simp only [binOp, ne_eq, not_true, if_false, Op.intCmp]; rfl, .b _⟩
  case neq => injection h with h; subst h; exact ⟨_, by simp only [binOp, ne_eq, not_true, if_false, Op.intCmp]; rfl, .b _⟩
  case lss => injection h with h; subst h; exact ⟨_, by simp only [binOp, ne_eq, not_true, if_false, Op.intCmp]; rfl, .b _⟩
  case leq => injection h with h; subst h; exact ⟨_, by simp only [binOp, ne_eq, not_true, if_false, Op.intCmp]; rfl, .b _⟩
  case gtr => injection h with h; subst h; exact ⟨_, by simp only [binOp, ne_eq, not_true, if_false, Op.intCmp]; rfl, .b _⟩
  case geq => injection h with h; subst h; exact ⟨_, by simp only [binOp, ne_eq, not_true, if_false, Op.intCmp]; rfl, .b _⟩
  case and => simp only [bitsV, Option.map_some, Option.some.injEq] at h; subst h; exact ⟨_, by simp only [binOp, ne_eq, not_true, if_false, Op.intBits, wrapV_eq]; rfl, .i _ _⟩
  case or => simp only [bitsV, Option.map_some, Option.some.injEq] at h; subst h; exact ⟨_, by simp only [binOp, ne_eq, not_true, if_false, Op.intBits, wrapV_eq]; rfl, .i _ _⟩
  case xor => simp only [bitsV, Option.map_some, Option.some.injEq] at h; subst h; exact ⟨_, by simp only [binOp, ne_eq, not_true, if_false, Op.intBits, wrapV_eq]; rfl, .i _ _⟩
  case andNot => simp only [bitsV, Option.map_some, Option.some.injEq] at h; subst h; exact ⟨_, by simp only [binOp, ne_eq, not_true, if_false, Op.intBits, wrapV_eq]; rfl, .i _ _⟩

theorem run_eqOp {op : BinOp} {t : TypeId} {x y : Value} {z : AV} {r : Bool} (h : eqOp op r = some z) (hb : (binOp .eql t x y).run P w = .ok (.bool r) w) (hb' : (binOp .neq t x y).run P w = .ok (.bool (!r)) w) :
    ∃ v, (binOp op t x y).run P w = .ok v w ∧ VR K S z v := by
  cases op <;> simp [eqOp] at h
  · subst h; exact ⟨_, hb, .b _⟩
  · subst h; exact ⟨_, hb', .b _⟩

theorem run_eq2 {op : BinOp} {t : TypeId} {x y : Value} {z : AV} {r : Bool} (h : eqOp op r = some z) (e1 : binOp .eql t x y = (do pure (.bool (← Op.equal t x y)))) (e2 : binOp .neq t x y = (do pure (.bool (!(← Op.equal t x y)))))
    (hr : ∀ n, (Op.equalIn (n + 1) t x y).run P w = .ok r w) : ∃ v, (binOp op t x y).run P w = .ok v w ∧ VR K S z v := by
  have hq : (Op.equal t x y).run P w = .ok r w := hr 9999
  refine run_eqOp h ?_ ?_
  · rw [e1]; simp only [Sem.run_bind, hq, Result.andThen_ok, Sem.run_pure]
  · rw [e2]; simp only [Sem.run_bind, hq, Result.andThen_ok, Sem.run_pure]

theorem size_mk (l : List UInt8) : (ByteArray.mk l.toArray).size = l.length := by simp [ByteArray.size]

theorem run_str {op : BinOp} {a b : List UInt8} {y : AV} (h : strV op a b = some y) (t : TypeId) :
    ∃ v, (binOp op t (.string ⟨a.toArray⟩) (.string ⟨b.toArray⟩)).run P w = .ok v w ∧ VR K S y v := by
  have e : ∀ op, binOp op t (.string ⟨a.toArray⟩) (.string ⟨b.toArray⟩) = Op.stringOp op ⟨a.toArray⟩ ⟨b.toArray⟩ := by
    intro op; cases op <;> rfl
  rw [e]
  cases op <;> simp only [strV] at h <;> try cases h
  case add =>
    split at h
    · rename_i hle
      injection h with h; subst h
      refine ⟨.string ⟨(a ++ b).toArray⟩, ?_, .s _⟩
      have hm : IntKind.i64.max = 9223372036854775807 := by decide
      have hn : ¬ ((((ByteArray.mk a.toArray).size + (ByteArray.mk b.toArray).size : Nat) : Int) > IntKind.i64.max) := by
        rw [size_mk, size_mk, hm]; omega
      have happ : (ByteArray.mk a.toArray) ++ (ByteArray.mk b.toArray) = ⟨(a ++ b).toArray⟩ := by
        apply ByteArray.ext; simp
      simp only [Op.stringOp, hn, if_false, Sem.run_pure, happ]
    · cases h
  case eql => exact ⟨_, by simp only [Op.stringOp, ByteArray.toList_mk]; rfl, .b _⟩
  case neq => exact ⟨_, by simp only [Op.stringOp, ByteArray.toList_mk]; rfl, .b _⟩
  case lss => exact ⟨_, by simp only [Op.stringOp, ByteArray.toList_mk]; rfl, .b _⟩
  case leq => exact ⟨_, by simp only [Op.stringOp, ByteArray.toList_mk]; rfl, .b _⟩
  case gtr => exact ⟨_, by simp only [Op.stringOp, ByteArray.toList_mk]; rfl, .b _⟩
  case geq => exact ⟨_, by simp only [Op.stringOp, ByteArray.toList_mk]; rfl, .b _⟩

/-- What 'nilness' says of the concrete value. -/
def NilAt (tk : TK) (b : Bool) (v : Value) : Prop :=
  match tk with
  | .ptr => ∃ p, v = .pointer p ∧ p.isNone = b
  | .slice => ∃ p n c, v = .slice p n c ∧ p.isNone = b
  | .map => ∃ p, v = .map p ∧ p.isNone = b
  | .func => (b = true ∧ v = .nilFunc) ∨ (b = false ∧ ∃ f x y, v = .func f x y)
  | .iface => (b = true ∧ v = .nilIface) ∨ (b = false ∧ ∃ t x, v = .iface t x)
  | _ => False

theorem nilness_ok {tk : TK} {x : AV} {v : Value} {b : Bool} (hx : VR K S x v) (h : nilness tk x = some b) : NilAt tk b v := by
  cases hx <;> cases tk <;> simp only [nilness, Option.some.injEq, reduceCtorEq] at h <;> subst h <;> simp [NilAt]

theorem eq_nil {tk : TK} {t : TypeId} {vx vy : Value} {b b' : Bool} (hk : kindOf P t = some tk) (hx : NilAt tk b vx) (hy : NilAt tk b' vy) (h : b = true ∨ b' = true) :
    (∀ n, (Op.equalIn (n + 1) t vx vy).run P w = .ok (b && b') w) ∧ binOp .eql t vx vy = (do pure (.bool (← Op.equal t vx vy))) ∧ binOp .neq t vx vy = (do pure (.bool (!(← Op.equal t vx vy)))) ∧
      (∀ c d, ¬ (vx = .agg c ∧ vy = .agg d)) ∧ ((vx = .nilIface ∧ vy = .nilIface) → tk = .iface ∧ b = true ∧ b' = true) := by
  unfold kindOf at hk
  split at hk <;> first | cases hk | skip
  all_goals (rename_i hu; simp only [NilAt] at hx hy)
  · obtain ⟨p, rfl, rfl⟩ := hx
    obtain ⟨q, rfl, rfl⟩ := hy
    refine ⟨fun n => ?_, rfl, rfl, by simp, by simp⟩
    simp only [Op.equalIn, Sem.run_bind, run_underlying' hu, Result.andThen_ok]
    cases p <;> cases q <;> first | rfl | simp at h
  · obtain ⟨p, _, _, rfl, rfl⟩ := hx
    obtain ⟨q, _, _, rfl, rfl⟩ := hy
    refine ⟨fun n => ?_, rfl, rfl, by simp, by simp⟩
    simp only [Op.equalIn, Sem.run_bind, run_underlying' hu, Result.andThen_ok]
    cases p <;> cases q <;> first | rfl | simp at h
  · obtain ⟨p, rfl, rfl⟩ := hx
    obtain ⟨q, rfl, rfl⟩ := hy
    refine ⟨fun n => ?_, rfl, rfl, by simp, by simp⟩
    simp only [Op.equalIn, Sem.run_bind, run_underlying' hu, Result.andThen_ok]
    cases p <;> cases q <;> first | rfl | simp at h
  · rcases hx with ⟨rfl, rfl⟩ | ⟨rfl, f, x, y, rfl⟩ <;> rcases hy with ⟨rfl, rfl⟩ | ⟨rfl, f', x', y', rfl⟩
    · refine ⟨fun n => ?_, rfl, rfl, by simp, by simp⟩
      simp only [Op.equalIn, Sem.run_bind, run_underlying' hu, Result.andThen_ok]; rfl
    · refine ⟨fun n => ?_, rfl, rfl, by simp, by simp⟩
      simp only [Op.equalIn, Sem.run_bind, run_underlying' hu, Result.andThen_ok]; rfl
    · refine ⟨fun n => ?_, rfl, rfl, by simp, by simp⟩
      simp only [Op.equalIn, Sem.run_bind, run_underlying' hu, Result.andThen_ok]; rfl
    · simp at h
  · rcases hx with ⟨rfl, rfl⟩ | ⟨rfl, f, x, rfl⟩ <;> rcases hy with ⟨rfl, rfl⟩ | ⟨rfl, f', x', rfl⟩
    · refine ⟨fun n => ?_, rfl, rfl, by simp, by simp⟩
      simp only [Op.equalIn, Sem.run_bind, run_underlying' hu, Result.andThen_ok]; rfl
    · refine ⟨fun n => ?_, rfl, rfl, by simp, by simp⟩
      simp only [Op.equalIn, Sem.run_bind, run_underlying' hu, Result.andThen_ok]; rfl
    · refine ⟨fun n => ?_, rfl, rfl, by simp, by simp⟩
      simp only [Op.equalIn, Sem.run_bind, run_underlying' hu, Result.andThen_ok]; rfl
    · simp at h

theorem guard0 {op : BinOp} {t : TypeId} {ox oy : Operand} {vx vy : Value} (hn : ¬ (vx = .nilIface ∧ vy = .nilIface)) (hn' : ∀ a b, ¬ (vx = .agg a ∧ vy = .agg b)) : (eqGuard op t ox oy vx vy).run P w = .ok () w := by
  unfold eqGuard
  cases vx <;> cases vy <;> first
    | (cases op <;> simp; done)
    | exact absurd ⟨rfl, rfl⟩ hn
    | exact absurd ⟨rfl, rfl⟩ (hn' _ _)

theorem guard_nil {op : BinOp} {t : TypeId} {ox oy : Operand} (hc : (isConst ox || isConst oy) = true) : (eqGuard op t ox oy .nilIface .nilIface).run P w = .ok () w := by
  cases ox <;> cases oy <;> first
    | (simp [isConst] at hc; done)
    | (unfold eqGuard; cases op <;> simp)

theorem run_bin {tk : TK} {op : BinOp} {t : TypeId} {x y z : AV} {vx vy : Value} {ox oy : Operand} (hk : kindOf P t = some tk) (hx : VR K S x vx) (hy : VR K S y vy) (h : binV tk (isConst ox || isConst oy) op x y = some z) :
    ∃ v, (do eqGuard op t ox oy vx vy; binOp op t vx vy : Sem Value).run P w = .ok v w ∧ VR K S z v := by
  have fin : ∀ {vx vy : Value}, (eqGuard op t ox oy vx vy).run P w = .ok () w → (∃ v, (binOp op t vx vy).run P w = .ok v w ∧ VR K S z v) →
      ∃ v, (do eqGuard op t ox oy vx vy; binOp op t vx vy : Sem Value).run P w = .ok v w ∧ VR K S z v := by
    rintro vx vy hn ⟨v, hv, hV⟩
    exact ⟨v, by simp only [Sem.run_bind, hn, Result.andThen_ok, hv], hV⟩
  unfold binV at h
  split at h
  · cases hx; cases hy
    refine fin (guard0 (by simp) (by simp)) ?_
    split at h
    · rename_i hs; exact run_shift (ops := op) hs h t
    · rename_i hs
      split at h
      · rename_i hkk; subst hkk; exact run_int (by simpa using hs) h t
      · cases h
  · cases hx; cases hy; exact fin (guard0 (by simp) (by simp)) (run_str h t)
  · cases hx; cases hy
    refine fin (guard0 (by simp) (by simp)) ?_
    have hd : P.underlying t = some .bool := by
      unfold kindOf at hk
      split at hk <;> cases hk
      rename_i hu; exact hu
    exact run_eq2 h rfl rfl fun n => by simp only [Op.equalIn, Sem.run_bind, run_underlying' hd, Result.andThen_ok]; rfl
  · split at h
    · rename_i b hb hb'
      have nx := nilness_ok hx hb
      have ny := nilness_ok hy hb'
      obtain ⟨h1, h2, h3, h4, h5⟩ := eq_nil (w := w) hk nx ny (.inl rfl)
      split at h
      · cases h
      · rename_i hc
        simp only [Bool.true_and] at h1
        refine fin ?_ (run_eq2 h h2 h3 h1)
        by_cases hni : vx = .nilIface ∧ vy = .nilIface
        · obtain ⟨e1, e2, e3⟩ := h5 hni
          obtain ⟨rfl, rfl⟩ := hni
          refine guard_nil ?_
          subst e1; subst e3
          cases hcc : (isConst ox || isConst oy) with
          | true => rfl
          | false => exact absurd ⟨rfl, rfl, hcc⟩ hc
        · exact guard0 hni h4
    · rename_i b hnt hb hb'
      have nx := nilness_ok hx hb
      have ny := nilness_ok hy hb'
      obtain ⟨h1, h2, h3, h4, h5⟩ := eq_nil (w := w) hk nx ny (.inr rfl)
      simp only [Bool.and_true] at h1
      have hbt : b = false := by
        cases b with
        | false => rfl
        | true => exact absurd rfl hnt
      refine fin (guard0 (fun hni => ?_) h4) (run_eq2 h h2 h3 h1)
      have := (h5 hni).2.1
      rw [hbt] at this; cases this
    · cases h
end
end Go.Proofs.YtmocapahlcaapaaGreatDoor

namespace Go.Proofs.YtmocapahlcaapaaGreatDoor
set_option linter.unusedSimpArgs false
set_option linter.unusedVariables false
open Go.RowKit

/-! ### Rows of cells -/
/-- A list of abstract cells stands for an array of cells. -/
def RowR (K : Ctx) (S : Mem) (x : List AV) (c : Array Value) : Prop := x.length = c.size ∧ ∀ k, VR K S (x.getD k .u) (c.getD k undef)

section
variable {P : Program} {base : Bs} {w0 : World} {K : Ctx} {S : Mem} {w : World}

theorem RowR.of_lt {x : List AV} {c : Array Value} (hl : x.length = c.size) (h : ∀ k, k < x.length → VR K S (x.getD k .u) (c.getD k undef)) : RowR K S x c := by
  refine ⟨hl, fun k => ?_⟩
  by_cases hk : k < x.length
  · exact h k hk
  · have : x.getD k .u = .u := by simp [List.getD_eq_getElem?_getD, List.getElem?_eq_none (show x.length ≤ k by omega)]
    rw [this]; exact .u _

theorem VR.row {x : AV} {v : Value} {cs : List AV} (h : VR K S x v) (hc : x.cells = some cs) : RowR K S cs v.cells := by
  obtain ⟨h1, h2⟩ := h.cells hc
  exact .of_lt h1 h2

theorem RowR.ag {x : List AV} {c : Array Value} (h : RowR K S x c) : VR K S (.ag x) (.agg c) := .ag _ _ h.1 h.2

theorem RowR.set {x : List AV} {c : Array Value} (h : RowR K S x c) {y : AV} {v : Value} (hy : VR K S y v) (k : Nat) (hk : k < x.length) : RowR K S (x.set k y) (c.setIfInBounds k v) := by
  refine ⟨by simp [h.1], fun j => ?_⟩
  by_cases e : j = k
  · subst e
    rw [getD_set_self hk]
    have : (c.setIfInBounds j v).getD j undef = v := by
      have hl := h.1
      simp [Array.getD, show j < c.size by omega]
    rw [this]; exact hy
  · rw [getD_set_ne e]
    have : (c.setIfInBounds k v).getD j undef = c.getD j undef := by
      simp only [Array.getD_eq_getD_getElem?, Array.getElem?_setIfInBounds_ne (Ne.symm e)]
    rw [this]; exact h.2 j

theorem RowR.fold (off : Nat) : ∀ (vs : List Value) (ys : List AV) (j : Nat) (x : List AV) (c : Array Value), RowR K S x c → ys.length = vs.length → (∀ k, k < ys.length → VR K S (ys.getD k .u) (vs.getD k undef)) → off + j + ys.length ≤ x.length →
    RowR K S (setList x (off + j) ys) ((vs.zipIdx j).foldl (fun cs (p : Value × Nat) => cs.setIfInBounds (off + p.2) p.1) c)
  | [], [], j, x, c, h, _, _, _ => by simpa [setList] using h
  | v :: vs, y :: ys, j, x, c, h, hl, hv, hb => by
    simp only [List.length_cons] at hl hb
    have h0 : VR K S y v := by simpa using hv 0 (by simp)
    have := RowR.fold off vs ys (j + 1) (x.set (off + j) y) (c.setIfInBounds (off + j) v) (h.set h0 _ (by omega)) (by omega)
      (fun k hk => by have := hv (k + 1) (by simp; omega); simpa using this) (by simp; omega)
    simpa [setList, List.zipIdx_cons, Nat.add_assoc] using this
  | [], _ :: _, _, _, _, _, hl, _, _ => by simp at hl
  | _ :: _, [], _, _, _, _, hl, _, _ => by simp at hl

/-- The parts of a literal. -/
def fillV (z : List AV) : List (Nat × Nat × AV) → Option (List AV)
  | [] => some z
  | (off, n, x) :: r => match x.cells with
    | some ys => if ys.length = n ∧ off + n ≤ z.length then fillV (splice z off ys) r else none
    | none => none

theorem run_fill (place : Nat → Option (Nat × Nat)) : ∀ (ps : List (Nat × Nat × AV)) (vs : List (Nat × Value)) (z : List AV) (c : Array Value) (r : List AV), RowR K S z c → ps.length = vs.length →
    (∀ k (h : k < ps.length) (h' : k < vs.length), place (vs[k]).1 = some ((ps[k]).1, (ps[k]).2.1) ∧ VR K S (ps[k]).2.2 (vs[k]).2) → fillV z ps = some r → ∃ c', Instr.fill place c vs = some c' ∧ RowR K S r c'
  | [], [], z, c, r, h, _, _, hf => by simp only [fillV, Option.some.injEq] at hf; subst hf; exact ⟨c, rfl, h⟩
  | (off, n, x) :: ps, (i, v) :: vs, z, c, r, h, hl, hp, hf => by
    simp only [List.length_cons] at hl
    have h0 := hp 0 (by simp) (by simp)
    simp only [List.getElem_cons_zero] at h0
    unfold fillV at hf
    split at hf
    · rename_i ys hys
      split at hf
      · rename_i hc
        obtain ⟨rfl, hle⟩ := hc
        have hr := h0.2.row hys
        have hz := h.1
        have h1 := RowR.fold (K := K) (S := S) off v.cells.toList ys 0 z c h (by simpa using hr.1) (fun k hk => by
          have := hr.2 k
          have hk' : k < v.cells.size := by have := hr.1; omega
          have e : v.cells.toList.getD k undef = v.cells.getD k undef := by simp [Array.getD, hk']
          rw [e]; exact this) (by omega)
        simp only [Nat.add_zero] at h1
        rw [setList_eq _ _ _ hle] at h1
        obtain ⟨c', hc', hR⟩ := run_fill place ps vs (splice z off ys) _ r h1 (by omega) (fun k a b => hp (k + 1) (by simp; omega) (by simp; omega)) hf
        refine ⟨c', ?_, hR⟩
        have hsz : v.cells.size = ys.length := hr.1.symm
        rw [Instr.fill, h0.1]
        simp only [hsz, ne_eq, not_true, decide_false, Bool.false_or, hz ▸ hle, gt_iff_lt]
        rw [if_neg (by simp; omega), ← Array.foldl_toList, Array.toList_zipIdx]
        exact hc'
      · cases hf
    · cases hf
  | [], _ :: _, _, _, _, _, hl, _, _ => by simp at hl
  | _ :: _, [], _, _, _, _, hl, _, _ => by simp at hl

theorem zeroOf_row {t : TypeId} {z : List AV} (h : zeroOf P t = some z) : ∃ i v, P.info? t = some i ∧ i.zero = some v ∧ ∀ K S, RowR K S z v.cells := by
  obtain ⟨i, v, h1, h2, h3, h4⟩ := zeroOf_ok h
  exact ⟨i, v, h1, h2, fun K S => .of_lt h3 (h4 K S)⟩

/-- Where the parts of a struct or an array lie. -/
def placesOf (P : Program) (t : TypeId) : Option (Nat → Option (Nat × Nat)) :=
  match P.underlying t with
  | some (.struct fs) => match fs.toList.mapM (fun f => (P.info? f.type).map fun i => (f.offset, i.size)) with
    | some l => some fun i => l[i]?
    | none => none
  | some (.array _ e) => match P.info? e with
    | some i => some fun k => some (k * i.size, i.size)
    | none => none
  | _ => none

theorem good_build (h : Sim base w0 K S w) {t : TypeId} {z : List AV} {pl : Nat → Option (Nat × Nat)} (hz : zeroOf P t = some z) (hp : placesOf P t = some pl) {ps : List (Nat × Nat × AV)} {vs : Array (Nat × Value)} {r : List AV}
    (hl : ps.length = vs.size) (hv : ∀ k (h : k < ps.length) (h' : k < vs.toList.length), pl (vs.toList[k]).1 = some ((ps[k]).1, (ps[k]).2.1) ∧ VR K S (ps[k]).2.2 (vs.toList[k]).2) (hf : fillV z ps = some r) :
    Good base w0 K S w (.ag r) S ((do let v ← Instr.build t vs; pure (Next.value v) : Sem Next).run P w) := by
  obtain ⟨i, v, h1, h2, h3⟩ := zeroOf_row hz
  obtain ⟨c', hc', hR⟩ := run_fill pl ps vs.toList z v.cells r (h3 K S) (by simpa using hl) hv hf
  refine Good.same h ?_ hR.ag
  unfold placesOf at hp
  split at hp
  · rename_i fs hfs
    split at hp
    · rename_i l hl'
      injection hp with hp
      subst hp
      have hm := run_places (P := P) w fs.toList l hl'
      have hc3 : Instr.fill (fun x => l[x]?) v.cells vs.toList = some c' := hc'
      simp [Instr.build, run_zeroValue' h1 h2, run_underlying' hfs, Array.mapM_eq_mapM_toList, hm, hc3]
    · cases hp
  · rename_i n e he
    split at hp
    · rename_i i' hi'
      injection hp with hp
      subst hp
      simp [Instr.build, run_zeroValue' h1 h2, run_underlying' he, run_sizeOf' hi', hc']
    · cases hp
  · cases hp

/-! ### New rows -/
/-- Zeros: n times the zero cells. -/
def zerosV (z : List AV) (n : Nat) : List AV := (List.range (n * z.length)).map fun k => z.getD (k % z.length) .u

theorem zerosV_row {z : List AV} {c : Array Value} (h : RowR K S z c) (n : Nat) : RowR K S (zerosV z n) ((Array.range (n * z.length)).map fun k => c[k % c.size]!) := by
  refine .of_lt (by simp [zerosV]) fun k hk => ?_
  have hk' : k < n * z.length := by simpa [zerosV] using hk
  have hz : 0 < z.length := by
    rcases Nat.eq_zero_or_pos z.length with e | e
    · rw [e] at hk'; simp at hk'
    · exact e
  have hm := Nat.mod_lt k hz
  have e1 : (zerosV z n).getD k .u = z.getD (k % z.length) .u := by
    simp [zerosV, List.getD_eq_getElem?_getD, hk']
  have e2 : ((Array.range (n * z.length)).map fun k => c[k % c.size]!).getD k undef = c.getD (k % z.length) undef := by
    have hs : k % c.size < c.size := by rw [← h.1]; exact hm
    have hk2 : k < n * c.size := by rw [← h.1]; exact hk'
    simp only [Array.getD_eq_getD_getElem?, Array.getElem?_map, Array.getElem?_range, h.1, if_pos hk2, Option.map_some, Option.getD_some]
    rw [getElem!_pos c (k % c.size) hs]
    simp [hs]
  rw [e1, e2]; exact h.2 _

theorem good_row2 (h : Sim base w0 K S w) (cs : List AV) (c : Array Value) (et : TypeId) (opn : Option Nat) (fz : Nat × Nat) (hl : cs.length ≤ c.size) (ho : opn = none → c.size = cs.length) (hx : ∀ k, k < cs.length → VR K S (cs.getD k .u) (c.getD k undef))
    (hfz : ∀ o, o < endOf opn c.size → ¬ (fz.1 ≤ o ∧ o < fz.2)) :
    ∃ K', Sim base w0 K' (S ++ [.cells cs 0 opn true]) (w.alloc (.cells c et fz)) ∧ Stp K S w K' (S ++ [.cells cs 0 opn true]) (w.alloc (.cells c et fz)) ∧
      K'.μ S.length = w.heap.size ∧ K'.σ S.length = c.size := by
  obtain ⟨h1, h2⟩ := h.alloc (.cells cs 0 opn true) (.cells c et fz) c.size fun K' S' w' hE e1 e2 e3 hb =>
    ⟨c, et, fz, by rw [e1]; exact e3, by rw [e2], hl, ho, fun k hk => (hx k hk).mono hE, fun _ => ⟨by rw [e1]; exact hb, hfz⟩⟩
  exact ⟨_, h1, h2, (K.put_same _ _ _).1, (K.put_same _ _ _).2⟩

/-- A new slice of which all is known. -/
theorem new_slice {K' : Ctx} {S : Mem} {cs : List AV} {len cap b : Nat} (hl : len ≤ cap) (hμ : K'.μ S.length = b) : VR K' (S ++ [.cells cs 0 none true]) (.sl S.length 0 0 len cap true) (.slice (some ⟨b, 0, none⟩) len cap) :=
  .sl _ _ _ _ _ _ _ _ _ (new_at S _) (Nat.le_refl _) hl (Nat.le_refl _) (fun _ => rfl) fun _ => ⟨by rw [hμ], fun e => by cases e⟩

theorem run_bslice {t e : TypeId} {z : List AV} {i : TypeInfo} (ht : P.underlying t = some (.slice e)) (hz : zeroOf P e = some z) (hi : P.info? e = some i) (hzs : z.length = i.size) {len : Nat} (hb : len * i.size ≤ 16777216)
    {ps : List (Nat × Nat × AV)} {vs : Array (Nat × Value)} {r : List AV} (hl : ps.length = vs.size)
    (hv : ∀ k (h : k < ps.length) (h' : k < vs.toList.length), ((vs.toList[k]).1 * i.size, i.size) = ((ps[k]).1, (ps[k]).2.1) ∧ VR K S (ps[k]).2.2 (vs.toList[k]).2) (hf : fillV (zerosV z len) ps = some r) :
    ∃ c' : Array Value, RowR K S r c' ∧ (do let v ← Instr.buildSlice t len vs; pure (Next.value v) : Sem Next).run P w = .ok (.value (.slice (some ⟨w.heap.size, 0, none⟩) len len)) (w.alloc (.cells c' e)) := by
  obtain ⟨i', v, h1, h2, h3⟩ := zeroOf_row hz
  rw [hi] at h1; obtain rfl := Option.some.inj h1
  have hz0 := zerosV_row (h3 K S) len
  have hnb : ¬ (len * i.size > 2 ^ 24) := by omega
  have go : ∀ zz : Array Value, RowR K S (zerosV z len) ((Array.range (len * i.size)).map (zz[· % zz.size]!)) →
      (∀ c', Instr.fill (fun k => some (k * i.size, i.size)) ((Array.range (len * i.size)).map (zz[· % zz.size]!)) vs.toList = some c' →
        (do let v ← Instr.buildSlice t len vs; pure (Next.value v) : Sem Next).run P w = .ok (.value (.slice (some ⟨w.heap.size, 0, none⟩) len len)) (w.alloc (.cells c' e))) →
      ∃ c' : Array Value, RowR K S r c' ∧ (do let v ← Instr.buildSlice t len vs; pure (Next.value v) : Sem Next).run P w = .ok (.value (.slice (some ⟨w.heap.size, 0, none⟩) len len)) (w.alloc (.cells c' e)) := by
    intro zz hzR hrun
    obtain ⟨c', hc', hR⟩ := run_fill (fun k => some (k * i.size, i.size)) ps vs.toList (zerosV z len) _ r hzR (by simpa using hl) (fun k a b => ⟨by rw [(hv k a b).1], (hv k a b).2⟩) hf
    exact ⟨c', hR, hrun c' hc'⟩
  by_cases h0 : len * i.size = 0
  · have hz00 : zerosV z len = [] := by simp [zerosV, hzs, h0]
    refine go #[] ?_ fun c' hc' => ?_
    · rw [hz00, h0]
      exact ⟨by simp, fun k => by simp; exact .u _⟩
    · rw [h0] at hc'
      simp only [Instr.buildSlice, Sem.run_bind, run_underlying' ht, Result.andThen_ok, run_sizeOf' hi, Sem.run_ite, hnb, if_false, h0, if_true, Sem.run_pure]
      simp only [hc', newRow, Sem.run_bind, run_newObj, Sem.run_pure, Result.andThen_ok]
      rfl
  · refine go v.cells (by rw [← hzs]; exact hz0) fun c' hc' => ?_
    simp only [Instr.buildSlice, Sem.run_bind, run_underlying' ht, Result.andThen_ok, run_sizeOf' hi, Sem.run_ite, hnb, if_false, h0, run_zeroValue' hi h2, Sem.run_pure]
    simp only [hc', newRow, Sem.run_bind, run_newObj, Sem.run_pure, Result.andThen_ok]
    rfl

theorem good_bslice (h : Sim base w0 K S w) {t e : TypeId} {z : List AV} {i : TypeInfo} (ht : P.underlying t = some (.slice e)) (hz : zeroOf P e = some z) (hi : P.info? e = some i) (hzs : z.length = i.size) {len : Nat} (hb : len * i.size ≤ 16777216)
    {ps : List (Nat × Nat × AV)} {vs : Array (Nat × Value)} {r : List AV} (hl : ps.length = vs.size)
    (hv : ∀ k (h : k < ps.length) (h' : k < vs.toList.length), ((vs.toList[k]).1 * i.size, i.size) = ((ps[k]).1, (ps[k]).2.1) ∧ VR K S (ps[k]).2.2 (vs.toList[k]).2) (hf : fillV (zerosV z len) ps = some r) :
    Good base w0 K S w (.sl S.length 0 0 len len true) (S ++ [.cells r 0 none true]) ((do let v ← Instr.buildSlice t len vs; pure (Next.value v) : Sem Next).run P w) := by
  obtain ⟨c', hR, hrun⟩ := run_bslice (w := w) ht hz hi hzs hb hl hv hf
  obtain ⟨K', s1, s2, s3, s4⟩ := good_row h r c' e hR.1 (fun k _ => hR.2 k)
  exact ⟨K', _, .slice (some ⟨w.heap.size, 0, none⟩) len len, .inl hrun, new_slice (Nat.le_refl _) s3, s1, s2⟩

/-- A number that is no less than 0. -/
def natV : AV → Option Nat
  | .i _ n => if 0 ≤ n then some n.toNat else none
  | _ => none

theorem natV_ok {x : AV} {v : Value} {n : Nat} (hx : VR K S x v) (h : natV x = some n) : ∃ k, v = .int k n := by
  unfold natV at h
  split at h
  · cases hx
    split at h
    · injection h with h; subst h
      exact ⟨_, by rw [Int.toNat_of_nonneg (by assumption)]⟩
    · cases h
  · cases h

theorem good_mks (h : Sim base w0 K S w) {t e : TypeId} {z : List AV} {i : TypeInfo} (ht : P.underlying t = some (.slice e)) (hz : zeroOf P e = some z) (hi : P.info? e = some i) (hzs : z.length = i.size) {x y : AV} {vx vy : Value} {l c : Nat}
    (hx : VR K S x vx) (hy : VR K S y vy) (hl : natV x = some l) (hc : natV y = some c) (hlc : l ≤ c) (hb : i.bytes * c ≤ 140737488355328) (hb' : c ≤ 140737488355328) :
    Good base w0 K S w (.sl S.length 0 0 l c true) (S ++ [.cells (zerosV z c) 0 none true]) ((do let v ← Instr.makeSlice t vx vy; pure (Next.value v) : Sem Next).run P w) := by
  obtain ⟨i', v, h1, h2, h3⟩ := zeroOf_row hz
  rw [hi] at h1; obtain rfl := Option.some.inj h1
  obtain ⟨kx, rfl⟩ := natV_ok hx hl
  obtain ⟨ky, rfl⟩ := natV_ok hy hc
  have wl : IntKind.i64.wrap (l : Int) = l := by rw [wrapV_eq]; simp only [wrapV]; omega
  have wc : IntKind.i64.wrap (c : Int) = c := by rw [wrapV_eq]; simp only [wrapV]; omega
  have hbc : ¬ ((i.bytes : Int) * (c : Int) > 2 ^ 48) := by
    have : ((i.bytes * c : Nat) : Int) = (i.bytes : Int) * (c : Int) := by simp
    rw [← this]; omega
  have hz0 := zerosV_row (h3 K S) c
  have n1 : ¬ ((l : Int) < 0) := by omega
  have n2 : ¬ ((c : Int) < 0) := by omega
  have n3 : ¬ ((l : Int) > (c : Int)) := by omega
  have q : (281474976710656 < (i.bytes : Int) * (c : Int)) = False := by
    have := hbc
    simp only [eq_iff_iff, iff_false]; omega
  have go : ∀ zz : Array Value, RowR K S (zerosV z c) ((Array.range (c * i.size)).map (zz[· % zz.size]!)) →
      ((do let v ← Instr.makeSlice t (.int kx l) (.int ky c); pure (Next.value v) : Sem Next).run P w = .ok (.value (.slice (some ⟨w.heap.size, 0, none⟩) l c)) (w.alloc (.cells ((Array.range (c * i.size)).map (zz[· % zz.size]!)) e))) →
      Good base w0 K S w (.sl S.length 0 0 l c true) (S ++ [.cells (zerosV z c) 0 none true]) ((do let v ← Instr.makeSlice t (.int kx l) (.int ky c); pure (Next.value v) : Sem Next).run P w) := by
    intro zz hzR hrun
    obtain ⟨K', s1, s2, s3, s4⟩ := good_row h (zerosV z c) _ e hzR.1 (fun k _ => hzR.2 k)
    exact ⟨K', _, .slice (some ⟨w.heap.size, 0, none⟩) l c, .inl hrun, new_slice hlc s3, s1, s2⟩
  by_cases h0 : c * i.size = 0
  · have hz00 : zerosV z c = [] := by simp [zerosV, hzs, h0]
    refine go #[] ?_ ?_
    · rw [hz00, h0]
      exact ⟨by simp, fun k => by simp; exact .u _⟩
    · rcases Nat.mul_eq_zero.1 h0 with e0 | e0
      · subst e0
        obtain rfl : l = 0 := by omega
        simp [Instr.makeSlice, run_underlying' ht, asInt, asIntOf, run_typeInfo' hi, wrapV_eq, wrapV, run_sizeOf' hi, newRow]
      · simp [Instr.makeSlice, run_underlying' ht, asInt, asIntOf, run_typeInfo' hi, wl, wc, n1, n2, n3, q, run_sizeOf' hi, e0, newRow]
  · refine go v.cells (by rw [← hzs]; exact hz0) ?_
    have h0' : ¬ (c = 0 ∨ i.size = 0) := fun e => h0 (Nat.mul_eq_zero.2 e)
    simp [Instr.makeSlice, run_underlying' ht, asInt, asIntOf, run_typeInfo' hi, wl, wc, n1, n2, n3, q, run_sizeOf' hi, h0', run_zeroValue' hi h2, newRow]
    exact fun e => absurd e h0
end
end Go.Proofs.YtmocapahlcaapaaGreatDoor

namespace Go.Proofs.YtmocapahlcaapaaGreatDoor
set_option linter.unusedSimpArgs false
set_option linter.unusedVariables false
open Go.RowKit

section
variable {P : Program} {base : Bs} {w0 : World} {K : Ctx} {S : Mem} {w : World}

/-! ### Indexes -/
/-- The address of an element: 'arr': of an array of so many. -/
def iaddrV (arr : Option Nat) (size : Nat) (x ix : AV) : Option AV :=
  match natV ix with
  | none => none
  | some n => match arr, x with
    | some len, .p i o v => if n < len then some (.p i (o + n * size) v) else none
    | none, .sl i o v len _ _ => if n < len then some (.p i (o + n * size) v) else none
    | _, _ => none

/-- What an array's or a slice's index wants to know of its type. -/
def idxOf (P : Program) (t : TypeId) : Option (Option Nat × TypeId × TypeInfo) :=
  match P.underlying t with
  | some (.array n e) => (P.info? e).map fun i => (some n, e, i)
  | some (.slice e) => (P.info? e).map fun i => (none, e, i)
  | _ => none

theorem VR.sl_addr {i o v len cap : Nat} {ex : Bool} {x : Value} (h : VR K S (.sl i o v len cap ex) x) (n : Nat) :
    ∃ a c, x = .slice (some a) len c ∧ len ≤ cap ∧ VR K S (.p i (o + n) v) (.pointer (some (a.add n))) := by
  cases h with
  | sl i o v len cap ex a c B hB hv hl hc he ha =>
    exact ⟨a, c, rfl, hl, .p _ _ _ _ B hB hv fun e => by rw [(ha e).1, add_eq]⟩

theorem good_iaddr (h : Sim base w0 K S w) {t e : TypeId} {arr : Option Nat} {inf : TypeInfo} (ht : idxOf P t = some (arr, e, inf)) {x ix y : AV} {vx vi : Value} (hx : VR K S x vx) (hi : VR K S ix vi) (hy : iaddrV arr inf.size x ix = some y) :
    Good base w0 K S w y S ((do let v ← Instr.indexAt t vx vi; pure (Next.value v) : Sem Next).run P w) := by
  unfold iaddrV at hy
  split at hy
  · cases hy
  · rename_i n hn
    obtain ⟨k, rfl⟩ := natV_ok hi hn
    unfold idxOf at ht
    split at hy
    · rename_i len i o v
      split at hy
      · rename_i hlt
        injection hy with hy; subst hy
        split at ht
        · rename_i len' e' hu
          obtain ⟨inf', hinf, heq⟩ := Option.map_eq_some_iff.1 ht
          injection heq with h1 h2; injection h2 with h2 h3
          injection h1 with h1
          subst h1; subst h2; subst h3
          obtain ⟨a, rfl, hv⟩ := hx.addr_off (n := n * inf'.size)
          refine Good.same h ?_ hv
          have hlt' : (n : Int) < (len' : Int) := by omega
          simp [Instr.indexAt, asIntOf, run_underlying' hu, Instr.sureAddr, hlt', run_sizeOf' hinf]
          intro hh; omega
        · rename_i e' hu
          obtain ⟨inf', hinf, heq⟩ := Option.map_eq_some_iff.1 ht
          injection heq with h1 h2; cases h1
        · cases ht
      · cases hy
    · rename_i i o v len cap ex
      split at hy
      · rename_i hlt
        injection hy with hy; subst hy
        split at ht
        · rename_i len' e' hu
          obtain ⟨inf', hinf, heq⟩ := Option.map_eq_some_iff.1 ht
          injection heq with h1 h2; cases h1
        · rename_i e' hu
          obtain ⟨inf', hinf, heq⟩ := Option.map_eq_some_iff.1 ht
          injection heq with h1 h2; injection h2 with h2 h3
          subst h2; subst h3
          obtain ⟨a, c, rfl, _, hv⟩ := hx.sl_addr (n * inf'.size)
          refine Good.same h ?_ hv
          have hlt' : (n : Int) < (len : Int) := by omega
          simp [Instr.indexAt, asIntOf, run_underlying' hu, hlt', run_sizeOf' hinf]
          intro hh; omega
        · cases ht
      · cases hy
    · cases hy

/-- An element of an array that is a value. -/
def ixaV (len size : Nat) (m : Option Nat) (x ix : AV) : Option AV :=
  match natV ix, x with
  | some n, .ag cs => if n < len then partV (n * size) m cs else none
  | _, _ => none

theorem good_ixa (h : Sim base w0 K S w) {t e : TypeId} {len : Nat} {inf : TypeInfo} (ht : idxOf P t = some (some len, e, inf)) {m : Option Nat} (hm : shapeOf P e = some m) {x ix y : AV} {vx vi : Value} (hx : VR K S x vx) (hi : VR K S ix vi) (hy : ixaV len inf.size m x ix = some y) :
    Good base w0 K S w y S ((do let v ← Instr.index t vx vi; pure (Next.value v) : Sem Next).run P w) := by
  unfold ixaV at hy
  split at hy
  · rename_i n cs hn
    obtain ⟨k, rfl⟩ := natV_ok hi hn
    split at hy
    · rename_i hlt
      cases hx with
      | ag _ x' hl hv =>
        obtain ⟨z, hz, hV⟩ := run_part (w := w) hm hl hv hy
        refine Good.same h ?_ hV
        unfold idxOf at ht
        split at ht
        · rename_i len' e' hu
          obtain ⟨inf', hinf, heq⟩ := Option.map_eq_some_iff.1 ht
          injection heq with h1 h2; injection h2 with h2 h3
          injection h1 with h1
          subst h1; subst h2; subst h3
          have hlt' : (n : Int) < (len' : Int) := by omega
          simp [Instr.index, asIntOf, run_underlying' hu, hlt', run_sizeOf' hinf, hz]
          intro hh; omega
        · rename_i e' hu
          obtain ⟨inf', hinf, heq⟩ := Option.map_eq_some_iff.1 ht
          injection heq with h1 h2; cases h1
        · cases ht
    · cases hy
  · cases hy

/-- A byte of a text. -/
def ixsV (x ix : AV) : Option AV :=
  match natV ix, x with
  | some n, .s l => match l[n]? with
    | some b => some (.i .u8 b.toNat)
    | none => none
  | _, _ => none

theorem good_ixs (h : Sim base w0 K S w) {t : TypeId} (ht : P.underlying t = some .string) {x ix y : AV} {vx vi : Value} (hx : VR K S x vx) (hi : VR K S ix vi) (hy : ixsV x ix = some y) :
    Good base w0 K S w y S ((do let v ← Instr.index t vx vi; pure (Next.value v) : Sem Next).run P w) := by
  unfold ixsV at hy
  split at hy
  · rename_i n l hn
    obtain ⟨k, rfl⟩ := natV_ok hi hn
    split at hy
    · rename_i b hb
      injection hy with hy; subst hy
      cases hx
      refine Good.same h ?_ (.i _ _)
      have hb' : (ByteArray.mk l.toArray)[n]? = some b := by
        obtain ⟨hlt, he⟩ := List.getElem?_eq_some_iff.1 hb
        have hlt' : n < (ByteArray.mk l.toArray).size := by rw [size_mk]; exact hlt
        rw [getElem?_pos (ByteArray.mk l.toArray) n hlt', ← he]
        rfl
      simp [Instr.index, asIntOf, run_underlying' ht, hb']
    · cases hy
  · cases hy

/-! ### Slice expressions -/
/-- A bound that may be left out. -/
def bndV (x : Option AV) (d top : Nat) : Option Nat :=
  match x with
  | none => some d
  | some x => match natV x with
    | some n => if n ≤ top then some n else none
    | none => none

def OptR (K : Ctx) (S : Mem) : Option AV → Option Value → Prop
  | none, none => True
  | some x, some v => VR K S x v
  | _, _ => False

theorem run_bound {x : AV} {v : Value} {n y : Nat} {code : BoundsCode} (hx : VR K S x v) (hn : natV x = some n) (hle : n ≤ y) : (Instr.sliceBound v y code).run P w = .ok n w := by
  obtain ⟨k, rfl⟩ := natV_ok hx hn
  have h0 : (0 : Int) ≤ n := by omega
  have h1 : (n : Int) ≤ y := by omega
  simp [Instr.sliceBound, asIntOf, h1]

/-- The three bounds: lower, upper, and that of the room. -/
def bnds (len cap : Nat) (lo hi mx : Option AV) : Option (Nat × Nat × Nat) :=
  match bndV mx cap cap with
  | none => none
  | some m => if mx.isSome && hi.isNone then none else match bndV hi len m with
    | none => none
    | some h => match bndV lo 0 h with
      | none => none
      | some l => if l ≤ h ∧ h ≤ m then some (l, h, m) else none

/-- At a capacity that may be greater than is known: the room's bound is the known one only if it is given. -/
theorem run_bnds {isS : Bool} {len cap c : Nat} {lo hi mx : Option AV} {vlo vhi vmx : Option Value} {l h m : Nat} (hlo : OptR K S lo vlo) (hhi : OptR K S hi vhi) (hmx : OptR K S mx vmx) (hc : cap ≤ c) (hb : bnds len cap lo hi mx = some (l, h, m)) :
    (Instr.sliceBounds isS len c vlo vhi vmx).run P w = .ok (l, h, if mx.isSome then m else c) w ∧ l ≤ h ∧ h ≤ m ∧ m ≤ cap ∧ (mx = none → m = cap) := by
  unfold bnds at hb
  split at hb
  · cases hb
  · rename_i m' hm
    split at hb
    · cases hb
    · rename_i hmh
      split at hb
      · cases hb
      · rename_i h' hh
        split at hb
        · cases hb
        · rename_i l' hl
          split at hb
          · rename_i hle
            simp only [Option.some.injEq, Prod.mk.injEq] at hb
            obtain ⟨rfl, rfl, rfl⟩ := hb
            have F1 : m' ≤ cap ∧ (mx = none → vmx = none ∧ m' = cap) ∧ ∀ v, vmx = some v → mx.isSome = true ∧ ∀ code, (Instr.sliceBound v c code).run P w = .ok m' w := by
              cases mx with
              | none =>
                cases vmx with
                | some v => exact absurd hmx id
                | none => simp only [bndV, Option.some.injEq] at hm; subst hm; exact ⟨Nat.le_refl _, fun _ => ⟨rfl, rfl⟩, fun v e => (by cases e)⟩
              | some x =>
                cases vmx with
                | none => exact absurd hmx id
                | some v =>
                  simp only [bndV] at hm
                  split at hm
                  · rename_i n hn
                    split at hm
                    · rename_i hle'
                      injection hm with hm; subst hm
                      refine ⟨hle', fun e => (by cases e), fun v' e => ⟨rfl, fun code => ?_⟩⟩
                      injection e with e; subst e
                      exact run_bound hmx hn (Nat.le_trans hle' hc)
                    · cases hm
                  · cases hm
            have F2 : ∀ M, m' ≤ M → (hi = none → vhi = none ∧ h' = len) ∧ ∀ v, vhi = some v → ∀ code, (Instr.sliceBound v M code).run P w = .ok h' w := by
              intro M hM
              cases hi with
              | none =>
                cases vhi with
                | some v => exact absurd hhi id
                | none => simp only [bndV, Option.some.injEq] at hh; subst hh; exact ⟨fun _ => ⟨rfl, rfl⟩, fun v e => (by cases e)⟩
              | some x =>
                cases vhi with
                | none => exact absurd hhi id
                | some v =>
                  simp only [bndV] at hh
                  split at hh
                  · rename_i n hn
                    split at hh
                    · rename_i hle'
                      injection hh with hh; subst hh
                      refine ⟨fun e => (by cases e), fun v' e code => ?_⟩
                      injection e with e; subst e
                      exact run_bound hhi hn (Nat.le_trans hle' hM)
                    · cases hh
                  · cases hh
            have F3 : (lo = none → vlo = none ∧ l' = 0) ∧ ∀ v, vlo = some v → ∀ code, (Instr.sliceBound v h' code).run P w = .ok l' w := by
              cases lo with
              | none =>
                cases vlo with
                | some v => exact absurd hlo id
                | none => simp only [bndV, Option.some.injEq] at hl; subst hl; exact ⟨fun _ => ⟨rfl, rfl⟩, fun v e => (by cases e)⟩
              | some x =>
                cases vlo with
                | none => exact absurd hlo id
                | some v =>
                  simp only [bndV] at hl
                  split at hl
                  · rename_i n hn
                    split at hl
                    · rename_i hle'
                      injection hl with hl; subst hl
                      refine ⟨fun e => (by cases e), fun v' e code => ?_⟩
                      injection e with e; subst e
                      exact run_bound hlo hn hle'
                    · cases hl
                  · cases hl
            obtain ⟨f1, f1', f1''⟩ := F1
            refine ⟨?_, hle.1, hle.2, f1, fun e => (f1' e).2⟩
            have n1 : mx = none ∨ mx.isSome = true := by cases mx <;> simp
            have n3 : vlo = none → l' = 0 := by
              intro e
              cases lo with
              | none => exact (F3.1 rfl).2
              | some x => subst e; exact absurd hlo id
            have n2 : vhi = none → hi = none ∧ h' = len := by
              intro e
              cases hi with
              | none => exact ⟨rfl, ((F2 m' (Nat.le_refl _)).1 rfl).2⟩
              | some x => subst e; exact absurd hhi id
            have n4 : vmx = none → mx = none := by
              intro e
              cases mx with
              | none => rfl
              | some x => subst e; exact absurd hmx id
            cases vmx with
            | none =>
              have em := n4 rfl
              subst em
              have hmc : m' = cap := (f1' rfl).2
              have F2' := (F2 c (by omega)).2
              cases vhi with
              | none =>
                obtain ⟨_, eh⟩ := n2 rfl
                cases vlo with
                | none => have := n3 rfl; subst this; subst eh; simp [Instr.sliceBounds]
                | some v => subst eh; simp [Instr.sliceBounds, F3.2 v rfl]
              | some v' =>
                cases vlo with
                | none => have := n3 rfl; subst this; simp [Instr.sliceBounds, F2' v' rfl]
                | some v => simp [Instr.sliceBounds, F2' v' rfl, F3.2 v rfl]
            | some vm =>
              obtain ⟨em, fm⟩ := f1'' vm rfl
              have F2' := (F2 m' (Nat.le_refl _)).2
              cases vhi with
              | none =>
                obtain ⟨eh, _⟩ := n2 rfl
                rw [em, eh] at hmh; simp at hmh
              | some v' =>
                cases vlo with
                | none => have := n3 rfl; subst this; simp [Instr.sliceBounds, F2' v' rfl, fm, em]
                | some v => simp [Instr.sliceBounds, F2' v' rfl, F3.2 v rfl, fm, em]
          · cases hb
end
end Go.Proofs.YtmocapahlcaapaaGreatDoor

namespace Go.Proofs.YtmocapahlcaapaaGreatDoor
set_option linter.unusedSimpArgs false
set_option linter.unusedVariables false
open Go.RowKit

section
variable {P : Program} {base : Bs} {w0 : World} {K : Ctx} {S : Mem} {w : World}

/-- Where a part of a slice lies. -/
def cutAt (o l m size : Nat) : Nat := if m = l then o else o + l * size

def sliceV (S : Mem) (size : Nat) (x : AV) (lo hi mx : Option AV) : Option AV :=
  match x with
  | .sn => match bnds 0 0 lo hi mx with
    | some _ => some .sn
    | none => none
  | .se => if mx.isSome then none else match bnds 0 0 lo hi mx with
    | some _ => some .se
    | none => none
  | .sl i o v len cap ex => match bnds len cap lo hi mx with
    | none => none
    | some (l, h, m) =>
      if ex || mx.isSome then some (.sl i (cutAt o l m size) v (h - l) (m - l) true)
      else if l = m then some .se
      else match S[i]? with
        | some B => if B.opn = some size then some (.sl i (o + l * size) v (h - l) (m - l) false) else none
        | none => none
  | _ => none

theorem map_cut (a : Addr) (l m size : Nat) : (if m = l then some a else (some a).map (·.add (l * size))) = some (if m = l then a else a.add (l * size)) := by
  split <;> rfl

theorem good_slice (h : Sim base w0 K S w) {t e : TypeId} {inf : TypeInfo} (ht : P.underlying t = some (.slice e)) (hinf : P.info? e = some inf) {x y : AV} {vx : Value} {lo hi mx : Option AV} {vlo vhi vmx : Option Value} (hx : VR K S x vx)
    (hlo : OptR K S lo vlo) (hhi : OptR K S hi vhi) (hmx : OptR K S mx vmx) (hy : sliceV S inf.size x lo hi mx = some y) :
    Good base w0 K S w y S ((do let v ← Instr.sliceAt t vx vlo vhi vmx; pure (Next.value v) : Sem Next).run P w) := by
  have run : ∀ (a : Option Addr) (len c l h m : Nat), (Instr.sliceBounds true len c vlo vhi vmx).run P w = .ok (l, h, m) w →
      (do let v ← Instr.sliceAt t (.slice a len c) vlo vhi vmx; pure (Next.value v) : Sem Next).run P w = .ok (.value (.slice (if m = l then a else a.map (·.add (l * inf.size))) (h - l) (m - l))) w := by
    intro a len c l h m hb
    simp [Instr.sliceAt, run_underlying' ht, Instr.slice, hb, run_sizeOf' hinf]
  unfold sliceV at hy
  split at hy
  · split at hy
    · rename_i r hr
      injection hy with hy; subst hy
      obtain ⟨l, hh, m⟩ := r
      obtain ⟨h1, h2, h3, h4, h5⟩ := run_bnds (P := P) (w := w) (isS := true) hlo hhi hmx (Nat.le_refl 0) hr
      cases hx
      have hm : (if mx.isSome then m else 0) = 0 := by split <;> omega
      rw [hm] at h1
      obtain rfl : l = 0 := by omega
      obtain rfl : hh = 0 := by omega
      refine Good.same h (run none 0 0 0 0 0 h1) ?_
      simpa using VR.sn
    · cases hy
  · split at hy
    · cases hy
    · rename_i hns
      split at hy
      · rename_i r hr
        injection hy with hy; subst hy
        obtain ⟨l, hh, m⟩ := r
        cases hx with
        | se a c =>
          obtain ⟨h1, h2, h3, h4, h5⟩ := run_bnds (P := P) (w := w) (isS := true) hlo hhi hmx (Nat.zero_le c) hr
          simp only [hns, Bool.false_eq_true, if_false] at h1
          obtain rfl : l = 0 := by omega
          obtain rfl : hh = 0 := by omega
          refine Good.same h (run (some a) 0 c 0 0 c h1) ?_
          rw [map_cut]
          exact .se _ _
      · cases hy
  · rename_i i o v len cap ex
    split at hy
    · cases hy
    · rename_i l hh m hr
      cases hx with
      | sl _ _ _ _ _ _ a c B hB hv hle hcc hce ha =>
        obtain ⟨h1, h2, h3, h4, h5⟩ := run_bnds (P := P) (w := w) (isS := true) hlo hhi hmx hcc hr
        split at hy
        · rename_i hex
          injection hy with hy; subst hy
          have hM : (if mx.isSome then m else c) = m := by
            cases hmm : mx.isSome with
            | true => simp
            | false =>
              have hn : mx = none := by cases mx <;> simp at hmm ⊢
              have he : ex = true := by simpa [hmm] using hex
              simp [hce he, h5 hn]
          rw [hM] at h1
          refine Good.same h (run _ _ _ _ _ _ h1) ?_
          rw [map_cut]
          refine .sl _ _ _ _ _ _ _ _ B hB hv (by omega) (Nat.le_refl _) (fun _ => rfl) fun hcur => ⟨?_, fun e => by cases e⟩
          obtain ⟨rfl, hc3⟩ := ha hcur
          unfold cutAt
          split
          · rfl
          · rw [add_eq]
        · rename_i hex
          have hn : mx = none := by cases mx <;> simp at hex ⊢
          have hexf : ex = false := by cases ex <;> simp at hex ⊢
          have hmc := h5 hn
          subst hn
          simp only [Option.isSome_none, Bool.false_eq_true, if_false] at h1
          split at hy
          · rename_i hlm
            injection hy with hy; subst hy
            refine Good.same h (run _ _ _ _ _ _ h1) ?_
            rw [map_cut]
            have : hh - l = 0 := by omega
            rw [this]
            exact .se _ _
          · rename_i hlm
            split at hy
            · rename_i B' hB'
              split at hy
              · rename_i ho
                injection hy with hy; subst hy
                rw [hB] at hB'; obtain rfl := Option.some.inj hB'
                refine Good.same h (run _ _ _ _ _ _ h1) ?_
                rw [map_cut]
                have hcl : ¬ (c = l) := by omega
                rw [if_neg hcl]
                refine .sl _ _ _ _ _ _ _ _ B hB hv (by omega) (by omega) (fun e => (by cases e)) fun e => ?_
                obtain ⟨rfl, hc3⟩ := ha e
                obtain ⟨es, hes, hsz⟩ := hc3 hexf
                rw [ho] at hes; obtain rfl := Option.some.inj hes
                refine ⟨by rw [add_eq], fun _ => ⟨_, ho, ?_⟩⟩
                have : o + l * inf.size + (c - l) * inf.size = o + c * inf.size := by
                  rw [Nat.add_assoc, ← Nat.add_mul]; congr 2; omega
                omega
              · cases hy
            · cases hy
  · cases hy
end
end Go.Proofs.YtmocapahlcaapaaGreatDoor

namespace Go.Proofs.YtmocapahlcaapaaGreatDoor
set_option linter.unusedSimpArgs false
set_option linter.unusedVariables false
open Go.RowKit

section
variable {P : Program} {base : Bs} {w0 : World} {K : Ctx} {S : Mem} {w : World}

/-! ### A slice of an array, a slice of a text -/
def slaV (n size : Nat) (x : AV) (lo hi mx : Option AV) : Option AV :=
  match x with
  | .p i o v => match bnds n n lo hi mx with
    | some (l, h, m) => some (.sl i (cutAt o l m size) v (h - l) (m - l) true)
    | none => none
  | _ => none

theorem good_sla (h : Sim base w0 K S w) {t e : TypeId} {n : Nat} {inf : TypeInfo} (ht : P.underlying t = some (.array n e)) (hinf : P.info? e = some inf) {x y : AV} {vx : Value} {lo hi mx : Option AV} {vlo vhi vmx : Option Value} (hx : VR K S x vx)
    (hlo : OptR K S lo vlo) (hhi : OptR K S hi vhi) (hmx : OptR K S mx vmx) (hy : slaV n inf.size x lo hi mx = some y) :
    Good base w0 K S w y S ((do let v ← Instr.sliceAt t vx vlo vhi vmx; pure (Next.value v) : Sem Next).run P w) := by
  unfold slaV at hy
  split at hy
  · rename_i i o v
    split at hy
    · rename_i l hh m hr
      injection hy with hy; subst hy
      cases hx with
      | p _ _ _ a B hB hv ha =>
        obtain ⟨h1, h2, h3, h4, h5⟩ := run_bnds (P := P) (w := w) (isS := false) hlo hhi hmx (Nat.le_refl n) hr
        have hM : (if mx.isSome then m else n) = m := by
          cases hmm : mx.isSome with
          | true => simp
          | false =>
            have hn : mx = none := by cases mx <;> simp at hmm ⊢
            simp [h5 hn]
        rw [hM] at h1
        refine Good.same (v := .slice (some (if m = l then a else a.add (l * inf.size))) (hh - l) (m - l)) h ?_ ?_
        · simp [Instr.sliceAt, run_underlying' ht, Instr.sureAddr, h1, run_sizeOf' hinf]
        · refine .sl _ _ _ _ _ _ _ _ B hB hv (by omega) (Nat.le_refl _) (fun _ => rfl) fun hcur => ⟨?_, fun e => by cases e⟩
          obtain rfl := ha hcur
          unfold cutAt
          split
          · rfl
          · rw [add_eq]
    · cases hy
  · cases hy

def slsV (x : AV) (lo hi : Option AV) : Option AV :=
  match x with
  | .s l => match bnds l.length l.length lo hi none with
    | some (a, b, _) => some (.s ((l.take b).drop a))
    | none => none
  | _ => none

theorem extract_mk (l : List UInt8) (a b : Nat) : (ByteArray.mk l.toArray).extract a b = ⟨((l.take b).drop a).toArray⟩ := by
  apply ByteArray.ext
  simp [List.drop_take]

theorem good_sls (h : Sim base w0 K S w) {t : TypeId} (ht : P.underlying t = some .string) {x y : AV} {vx : Value} {lo hi : Option AV} {vlo vhi : Option Value} (hx : VR K S x vx)
    (hlo : OptR K S lo vlo) (hhi : OptR K S hi vhi) (hy : slsV x lo hi = some y) :
    Good base w0 K S w y S ((do let v ← Instr.sliceAt t vx vlo vhi none; pure (Next.value v) : Sem Next).run P w) := by
  unfold slsV at hy
  split at hy
  · rename_i l
    split at hy
    · rename_i a b m hr
      injection hy with hy; subst hy
      cases hx
      obtain ⟨h1, h2, h3, h4, h5⟩ := run_bnds (P := P) (w := w) (isS := false) (mx := none) (vmx := none) hlo hhi trivial (Nat.le_refl l.length) hr
      refine Good.same (v := .string ((ByteArray.mk l.toArray).extract a b)) h ?_ ?_
      · simp only [Option.isSome_none, Bool.false_eq_true, if_false] at h1
        simp [Instr.sliceAt, run_underlying' ht, Instr.slice, size_mk, h1]
      · rw [extract_mk]; exact .s _
    · cases hy
  · cases hy

/-! ### Lengths -/
def lenV (S : Mem) (x : AV) : Option Nat :=
  match x with
  | .s l => some l.length
  | .sn => some 0
  | .se => some 0
  | .sl _ _ _ len _ _ => some len
  | .mn => some 0
  | .m i => match S[i]? with
    | some (.map es _) => some es.length
    | _ => none
  | _ => none

/-- The operand's kind fits 'len'. -/
def lenFits (P : Program) (t : TypeId) (x : AV) : Bool :=
  match P.underlying t, x with
  | some .string, .s _ => true
  | some (.slice _), .sn => true
  | some (.slice _), .se => true
  | some (.slice _), .sl .. => true
  | some (.map _ _), .mn => true
  | some (.map _ _), .m _ => true
  | _, _ => false

theorem run_len (h : Sim base w0 K S w) {t ty : TypeId} {x : AV} {v : Value} {n : Nat} (hx : VR K S x v) (hn : lenV S x = some n) (hk : lenFits P t x = true) :
    (Builtin.len_ #[t] ty #[v]).run P w = .ok (.int .i64 n) w := by
  unfold lenFits at hk
  split at hk
  all_goals (first | cases hk | skip)
  all_goals rename_i hd
  · cases hx; simp only [lenV, Option.some.injEq] at hn; subst hn; simp [Builtin.len_, run_underlying' hd, size_mk, goInt]
  · cases hx; simp only [lenV, Option.some.injEq] at hn; subst hn; simp [Builtin.len_, run_underlying' hd, goInt]
  · cases hx; simp only [lenV, Option.some.injEq] at hn; subst hn; simp [Builtin.len_, run_underlying' hd, goInt]
  · cases hx; simp only [lenV, Option.some.injEq] at hn; subst hn; simp [Builtin.len_, run_underlying' hd, goInt]
  · cases hx; simp only [lenV, Option.some.injEq] at hn; subst hn; simp [Builtin.len_, run_underlying' hd, goInt]
  · cases hx with
    | m i r B hB hr =>
      simp only [lenV] at hn
      split at hn
      · rename_i es cl hes
        injection hn with hn; subst hn
        rw [hB] at hes; obtain rfl := Option.some.inj hes
        obtain ⟨E, h1, h2, _⟩ := h.blk _ _ hB
        obtain rfl := hr rfl
        simp [Builtin.len_, run_underlying' hd, goInt, getObj, Sem.run, h1, h2]
      · cases hn

/-! ### What is appended or copied -/
def srcV (S : Mem) (size : Nat) (y : AV) : Option (List AV × Nat) :=
  match y with
  | .sn => some ([], 0)
  | .se => some ([], 0)
  | .sl i o v len _ _ => match rowAt S i o v (len * size) with
    | some cs => some (cs, len)
    | none => none
  | .s l => if size = 1 then some (l.map fun b => .i .u8 b.toNat, l.length) else none
  | _ => none

theorem src_ok (h : Sim base w0 K S w) {size : Nat} {y : AV} {v : Value} {cs : List AV} {n : Nat} (hy : VR K S y v) (hs : srcV S size y = some (cs, n)) :
    (Builtin.lenOf v).run P w = .ok n w ∧ cs.length = n * size ∧ ∀ m, m ≤ n → ∃ c : Array Value, (Builtin.firstCells size m v).run P w = .ok c w ∧ RowR K S (cs.take (m * size)) c := by
  unfold srcV at hs
  split at hs
  · injection hs with hs; injection hs with h1 h2; subst h1; subst h2
    cases hy
    exact ⟨rfl, by simp, fun m _ => ⟨#[], rfl, by simp, fun k => by simp; exact .u _⟩⟩
  · injection hs with hs; injection hs with h1 h2; subst h1; subst h2
    cases hy with
    | se a c =>
      refine ⟨rfl, by simp, fun m hm => ⟨#[], ?_, by simp, fun k => by simp; exact .u _⟩⟩
      obtain rfl : m = 0 := by omega
      simp [Builtin.firstCells, loadCells, loadCellsFrom]
  · rename_i i o ver len cap ex
    split at hs
    · rename_i xs hxs
      injection hs with hs; injection hs with h1 h2; subst h1; subst h2
      obtain ⟨hlen, g, hg, hV⟩ := rowAt_ok h hxs
      obtain ⟨B, hB, hver⟩ := rowAt_ver hxs
      cases hy with
      | sl _ _ _ _ _ _ a c B' hB' hle hl hc he ha =>
        rw [hB] at hB'; obtain rfl := Option.some.inj hB'
        obtain ⟨rfl, _⟩ := ha hver
        refine ⟨rfl, hlen, fun m hm => ?_⟩
        have hms : m * size ≤ len * size := Nat.mul_le_mul_right _ hm
        refine ⟨((List.range (m * size)).map g).toArray, ?_, .of_lt (by simp; omega) fun k hk => ?_⟩
        · simp only [Builtin.firstCells]
          exact run_loadCells w _ _ g fun j hj => hg j (by omega)
        · have hk' : k < m * size := by simp at hk; omega
          rw [range_getD _ _ _ hk']
          have e : (xs.take (m * size)).getD k .u = xs.getD k .u := by simp [List.getD_eq_getElem?_getD, List.getElem?_take, hk']
          rw [e]; exact hV k (by omega)
    · cases hs
  · rename_i l
    split at hs
    · rename_i h1
      subst h1
      injection hs with hs; injection hs with h1 h2; subst h1; subst h2
      cases hy
      refine ⟨by simp [Builtin.lenOf, size_mk], by simp, fun m hm => ⟨_, rfl, .of_lt (by simp) fun k hk => ?_⟩⟩
      have hk' : k < m := by simp at hk; omega
      have hk2 : k < l.length := by omega
      have e1 : (List.take (m * 1) (l.map fun b => AV.i .u8 b.toNat)).getD k .u = .i .u8 (l[k]).toNat := by
        simp [List.getD_eq_getElem?_getD, List.getElem?_take, hk', hk2]
      have e2 : (((ByteArray.mk l.toArray).extract 0 m).data.map fun b => Value.int .u8 b.toNat).getD k undef = .int .u8 (l[k]).toNat := by
        rw [extract_mk]
        have hmin : k < min m l.length := by omega
        simp [Array.getD, hmin]
      rw [e1, e2]; exact .i _ _
    · cases hs
  · cases hs
end
end Go.Proofs.YtmocapahlcaapaaGreatDoor

namespace Go.Proofs.YtmocapahlcaapaaGreatDoor
set_option linter.unusedSimpArgs false
set_option linter.unusedVariables false
open Go.RowKit

section
variable {P : Program} {base : Bs} {w0 : World} {K : Ctx} {S : Mem} {w : World}

/-! ### Copies -/
def copyV (S : Mem) (size : Nat) (x y : AV) : Option (Nat × Mem) :=
  match srcV S size y with
  | none => none
  | some (cs, n) => match x with
    | .sn => some (0, S)
    | .se => some (0, S)
    | .sl i o v len _ _ =>
      let m := Nat.min n len
      match S[i]? with
      | some (.cells c0 ver op true) => if ver = v ∧ o + m * size ≤ c0.length ∧ (cs.take (m * size)).all AV.one = true then some (m, S.set i (.cells (splice c0 o (cs.take (m * size))) v op true)) else none
      | _ => none
    | _ => none

theorem good_copy (h : Sim base w0 K S w) {dT sT ty e : TypeId} {inf : TypeInfo} (ht : P.underlying dT = some (.slice e)) (hinf : P.info? e = some inf) {x y : AV} {vx vy : Value} {n : Nat} {S' : Mem} (hx : VR K S x vx) (hy : VR K S y vy) (hc : copyV S inf.size x y = some (n, S')) :
    Good base w0 K S w (.i .i64 n) S' ((do let v ← Builtin.copy_ #[dT, sT] ty #[vx, vy]; pure (Next.value v) : Sem Next).run P w) := by
  unfold copyV at hc
  split at hc
  · cases hc
  · rename_i cs m0 hs
    obtain ⟨h1, h2, h3⟩ := src_ok (P := P) h hy hs
    split at hc
    · injection hc with hc; injection hc with hc1 hc2; subst hc1; subst hc2
      cases hx
      obtain ⟨c, h4, _⟩ := h3 0 (Nat.zero_le _)
      refine Good.same h ?_ (.i _ _)
      simp [Builtin.copy_, run_underlying' ht, h1, run_sizeOf' hinf, h4, goInt]
    · injection hc with hc; injection hc with hc1 hc2; subst hc1; subst hc2
      cases hx
      obtain ⟨c, h4, h5, _⟩ := h3 0 (Nat.zero_le _)
      have hc0 : c = #[] := by
        apply Array.eq_empty_of_size_eq_zero; simpa using h5.symm
      subst hc0
      refine Good.same h ?_ (.i _ _)
      simp [Builtin.copy_, run_underlying' ht, h1, run_sizeOf' hinf, h4, goInt, storeCells]
    · rename_i i o v len cap ex
      dsimp only at hc
      split at hc
      · rename_i c0 ver op hB
        split at hc
        · rename_i hcond
          obtain ⟨rfl, hle, hone⟩ := hcond
          injection hc with hc; injection hc with hc1 hc2; subst hc1; subst hc2
          obtain ⟨c, h4, h5⟩ := h3 (Nat.min m0 len) (Nat.min_le_left _ _)
          cases hx with
          | sl _ _ _ _ _ _ a c' B' hB' hle' hl hcc he ha =>
            rw [hB] at hB'; obtain rfl := Option.some.inj hB'
            obtain ⟨rfl, _⟩ := ha rfl
            have hmn : Nat.min m0 len * inf.size ≤ m0 * inf.size := Nat.mul_le_mul_right _ (Nat.min_le_left _ _)
            have hlen : (cs.take (Nat.min m0 len * inf.size)).length = Nat.min m0 len * inf.size := by simp; omega
            obtain ⟨w', hrun, hS', hst⟩ := Sim.storeCells (P := P) (cs.take (Nat.min m0 len * inf.size)) c.toList S w i ver c0 op o 0 h hB (by omega) (by simpa using h5.1)
              (fun k hk => by
                have := h5.2 k
                have hk' : k < c.size := by have := h5.1; omega
                have e : c.toList.getD k undef = c.getD k undef := by simp [Array.getD, hk']
                rw [e]; exact this) hone
            simp only [Nat.add_zero] at hS' hst
            rw [setList_eq _ _ _ (by omega)] at hS' hst
            refine ⟨K, w', .int .i64 (Nat.min m0 len), .inl ?_, .i _ _, hS', hst⟩
            simp only [Builtin.copy_, List.getElem?_toArray, List.getElem?_cons_zero, List.getElem?_cons_succ, Sem.run_bind, run_underlying' ht, Result.andThen_ok, h1, run_sizeOf' hinf, h4]
            simp [hrun, goInt]
        · cases hc
      · cases hc
    · cases hc

/-! ### Cells of a block that is not wholly known -/
theorem run_storeCells_conc : ∀ (vs : List Value) (b o j : Nat) (c : Array Value) (et : TypeId) (fz : Nat × Nat) (w : World), w.heap[b]? = some (.cells c et fz) → o + j + vs.length ≤ c.size → (∀ k, k < c.size → ¬ (fz.1 ≤ k ∧ k < fz.2)) →
    (∀ v ∈ vs, (∀ c, v ≠ .agg c) ∧ (∀ c, v ≠ .tuple c)) →
    ∃ w' c', (storeCells ⟨b, o, none⟩ vs j).run P w = .ok () w' ∧ w'.heap[b]? = some (.cells c' et fz) ∧ c'.size = c.size ∧ (∀ k, k < o + j → c'.getD k undef = c.getD k undef) ∧
      (∀ k, k < vs.length → c'.getD (o + j + k) undef = vs.getD k undef) ∧ w'.heap.size = w.heap.size ∧ (∀ k, k ≠ b → w'.heap[k]? = w.heap[k]?) ∧ w'.os = w.os ∧ w'.tape = w.tape ∧ w'.output = w.output
  | [], b, o, j, c, et, fz, w, hb, _, _, _ => ⟨w, c, by simp [storeCells], hb, rfl, fun _ _ => rfl, fun k hk => by simp at hk, rfl, fun _ _ => rfl, rfl, rfl, rfl⟩
  | v :: vs, b, o, j, c, et, fz, w, hb, hl, hf, h1 => by
    simp only [List.length_cons] at hl
    have hlt : o + j < c.size := by omega
    have hcell : w.cell? ⟨b, o + j, none⟩ = some c[o + j] := by
      unfold World.cell?; simp [hb, hlt]
    have hfz : w.frozen? ⟨b, o + j, none⟩ = false := by
      unfold World.frozen?; simp only [hb]
      have := hf (o + j) hlt
      simpa using this
    have hnew : (w.setCell ⟨b, o + j, none⟩ v).heap[b]? = some (.cells (c.setIfInBounds (o + j) v) et fz) := heap_setCell_same' w ⟨b, o + j, none⟩ v c et fz rfl hb
    obtain ⟨w', c', hrun, q1, q2, q3, q4, q5, q6, q7, q8, q9⟩ := run_storeCells_conc vs b o (j + 1) (c.setIfInBounds (o + j) v) et fz (w.setCell ⟨b, o + j, none⟩ v) hnew (by simp; omega) (fun k hk => hf k (by simpa using hk)) (fun u hu => h1 u (by simp [hu]))
    refine ⟨w', c', ?_, q1, by simpa using q2, fun k hk => ?_, fun k hk => ?_, by simpa using q5, fun k hk => ?_, q7, q8, q9⟩
    · rw [storeCells, run_bind, add_eq, run_store_one (h1 v (by simp)) hcell hfz]
      exact hrun
    · rw [q3 k (by omega)]
      simp only [Array.getD_eq_getD_getElem?]
      rw [Array.getElem?_setIfInBounds_ne (by omega)]
    · cases k with
      | zero =>
        rw [q3 (o + j + 0) (by omega)]
        simp [Array.getD, hlt]
      | succ k =>
        have := q4 k (by simp at hk; omega)
        rw [show o + j + (k + 1) = o + (j + 1) + k by omega, this]
        simp
    · rw [q6 k hk]
      exact Below.heap_setCell _ _ _ _ hk

/-- A block is another one now, perhaps at another place. -/
theorem Sim.turn (h : Sim base w0 K S w) {i : Nat} {B B' : Blk} {m n : Nat} {w' : World} (hB : S[i]? = some B) (hv : B.ver < B'.ver) (hrw : B.rw = true) (hm : m = K.μ i ∨ w.heap.size ≤ m)
    (hos : w'.os = w.os) (htape : w'.tape = w.tape) (hout : w'.output = w.output) (hsz : w.heap.size ≤ w'.heap.size) (hkeep : ∀ k, k < w.heap.size → k ≠ K.μ i → w'.heap[k]? = w.heap[k]?)
    (hbr : ∀ K' S', Ext K S K' S' → K'.μ i = m → K'.σ i = n → BRel base K' S' w' i B') :
    Sim base w0 (K.put i m n) (S.set i B') w' ∧ Stp K S w (K.put i m n) (S.set i B') w' := by
  have hil : i < S.length := (List.getElem?_eq_some_iff.1 hB).1
  have hE : Ext K S (K.put i m n) (S.set i B') := by
    refine ⟨by simp, fun j C hC => ?_⟩
    by_cases e : j = i
    · subst e
      rw [hB] at hC; obtain rfl := Option.some.inj hC
      exact ⟨B', by simp [hil], by omega, fun e => by omega⟩
    · exact ⟨C, by rw [List.getElem?_set_ne (Ne.symm e)]; exact hC, Nat.le_refl _, fun _ => ⟨(K.put_other _ _ e).1, (K.put_other _ _ e).2, rfl⟩⟩
  have hs : Stp K S w (K.put i m n) (S.set i B') w' := by
    refine ⟨hE, hos, htape, hout, hsz, fun b hb hn => hkeep b hb fun e => hn i B hB hrw e.symm, fun j C hC => ?_⟩
    by_cases e : j = i
    · subst e
      rw [(K.put_same _ _ _).1]
      rcases hm with hm | hm
      · exact .inl ⟨B, hB, fun _ => hrw, hm⟩
      · exact .inr hm
    · rw [List.getElem?_set_ne (Ne.symm e)] at hC
      exact .inl ⟨C, hC, id, (K.put_other _ _ e).1⟩
  refine ⟨⟨fun j C hC => ?_, fun a b ha hb e => ?_, h.step_below hs, Nat.le_trans h.hb hsz, h.door⟩, hs⟩
  · by_cases e : j = i
    · subst e
      simp only [List.getElem?_set_self hil, Option.some.injEq] at hC
      subst hC
      exact hbr _ _ hE (K.put_same _ _ _).1 (K.put_same _ _ _).2
    · rw [List.getElem?_set_ne (Ne.symm e)] at hC
      have hj := h.blk j C hC
      have hjl : j < S.length := (List.getElem?_eq_some_iff.1 hC).1
      exact hj.mono hE (K.put_other _ _ e).1 (K.put_other _ _ e).2 (hkeep _ hj.lt fun e' => e (h.inj j i hjl hil e'))
  · simp only [List.length_set] at ha hb
    have lt : ∀ k, k < S.length → K.μ k < w.heap.size := fun k hk => (h.blk k S[k] (List.getElem?_eq_getElem hk)).lt
    by_cases ea : a = i <;> by_cases eb : b = i
    · omega
    · subst ea
      rw [(K.put_same _ _ _).1, (K.put_other _ _ eb).1] at e
      have := lt b hb
      rcases hm with hm | hm
      · exact h.inj a b ha hb (hm ▸ e)
      · omega
    · subst eb
      rw [(K.put_same _ _ _).1, (K.put_other _ _ ea).1] at e
      have := lt a ha
      rcases hm with hm | hm
      · exact h.inj a b ha hb (hm ▸ e)
      · omega
    · rw [(K.put_other _ _ ea).1, (K.put_other _ _ eb).1] at e
      exact h.inj a b ha hb e

/-! ### Appends -/
def lim : Nat := 140737488355328

def appV (S : Mem) (size bytes : Nat) (x : AV) (cs : List AV) (n : Nat) : Option (AV × Mem) :=
  match x with
  | .sn => if n = 0 then some (.sn, S) else if n * bytes ≤ lim ∧ n ≤ lim then some (.sl S.length 0 0 n n false, S ++ [.cells cs 0 (some size) true]) else none
  | .se => if n = 0 then some (.se, S) else none
  | .sl i o v len cap ex =>
    if n = 0 then some (.sl i o v len cap ex, S)
    else if len + n ≤ cap then match S[i]? with
      | some (.cells c0 ver op true) => if ver = v ∧ o + (len + n) * size ≤ c0.length ∧ cs.all AV.one = true then some (.sl i o v (len + n) cap ex, S.set i (.cells (splice c0 (o + len * size) cs) v op true)) else none
      | _ => none
    else if (len + n) * bytes ≤ lim ∧ len + n ≤ lim then
      if ex then match rowAt S i o v (len * size) with
        | some old => some (.sl S.length 0 0 (len + n) (len + n) false, S ++ [.cells (old ++ cs) 0 (some size) true])
        | none => none
      else match S[i]? with
        | some (.cells c0 ver op true) => if ver = v ∧ o = 0 ∧ op = some size ∧ len * size ≤ c0.length ∧ cs.all AV.one = true then some (.sl i 0 (v + 1) (len + n) (len + n) false, S.set i (.cells (c0.take (len * size) ++ cs) (v + 1) (some size) true)) else none
        | _ => none
    else none
  | _ => none

theorem run_app_grow {sT xT ty e : TypeId} {inf : TypeInfo} {z : Value} {d : TypeDesc} (ht : P.underlying sT = some (.slice e)) (hxT : P.underlying xT = some d) (hd : ∀ k, d ≠ .int k) (hinf : P.info? e = some inf) (hz : inf.zero = some z)
    {b : Option Addr} {len c n : Nat} {vy : Value} {old new : Array Value} (hn : (Builtin.lenOf vy).run P w = .ok n w) (ho : (Builtin.firstCells inf.size len (.slice b len c)).run P w.drew = .ok old w.drew)
    (hw : (Builtin.firstCells inf.size n vy).run P w.drew = .ok new w.drew) (hc : c < len + n) (hb : (len + n) * inf.bytes ≤ lim) (hb' : len + n ≤ lim) :
    ∃ cap, len + n ≤ cap ∧ (Builtin.append_ #[sT, xT] ty #[.slice b len c, vy]).run P w =
      .ok (.slice (some ⟨w.heap.size, 0, none⟩) (len + n) cap) (w.drew.alloc (.cells (old ++ new ++ Builtin.zeroCells z.cells (cap - (len + n))) e)) := by
  refine ⟨(Question.appendCap (len + n) c e).cut (w.tape w.drawn (.appendCap (len + n) c e)), by simp [Question.cut], ?_⟩
  unfold lim at hb hb'
  have hg := growslice_fits (bytes := inf.bytes) hc (by omega)
  have hm : ¬ (IntKind.i64.max < ((len + n : Nat) : Int)) := by
    have : IntKind.i64.max = 9223372036854775807 := by decide
    rw [this]; omega
  have hnot : ¬ (len + n ≤ c) := by omega
  have hg' : ¬ (Builtin.nextslicecap (len + n) c * inf.bytes > 2 ^ 48) := by omega
  have hdi : (d matches .int _) = false := by
    cases d <;> first | rfl | exact absurd rfl (hd _)
  have hm' : ¬ (((len : Int) + (n : Int)) > IntKind.i64.max) := by
    intro hh; apply hm; push_cast; omega
  simp only [Builtin.append_, List.getElem?_toArray, List.getElem?_cons_zero, List.getElem?_cons_succ, Sem.run_bind, run_underlying' ht, Result.andThen_ok, run_sizeOf' hinf, run_underlying' hxT, Sem.run_pure, hdi, Bool.false_eq_true, if_false, hn,
    hnot, run_typeInfo' hinf, false_or]
  have hA : ¬ (((len + n : Nat) : Int) > IntKind.i64.max ∧ inf.bytes = 0) := fun hh => hm hh.1
  rw [if_neg hA]
  simp only [Sem.run_bind, run_typeInfo' hinf, Result.andThen_ok]
  rw [if_neg hg']
  simp [Question.forced, run_typeInfo' hinf, ho, hw, run_zeroValue' hinf hz, newRow]

theorem run_app_in {sT xT ty e : TypeId} {inf : TypeInfo} {d : TypeDesc} (ht : P.underlying sT = some (.slice e)) (hxT : P.underlying xT = some d) (hd : ∀ k, d ≠ .int k) (hinf : P.info? e = some inf)
    {b : Option Addr} {len c n : Nat} {vy : Value} {new : Array Value} {w' : World} (hn : (Builtin.lenOf vy).run P w = .ok n w) (hw : (Builtin.firstCells inf.size n vy).run P w = .ok new w) (hc : len + n ≤ c)
    (hst : (match b with | some a => storeCells (a.add (len * inf.size)) new.toList | none => pure () : Sem Unit).run P w = .ok () w') :
    (Builtin.append_ #[sT, xT] ty #[.slice b len c, vy]).run P w = .ok (.slice b (len + n) c) w' := by
  have hdi : (d matches .int _) = false := by
    cases d <;> first | rfl | exact absurd rfl (hd _)
  simp only [Builtin.append_, List.getElem?_toArray, List.getElem?_cons_zero, List.getElem?_cons_succ, Sem.run_bind, run_underlying' ht, Result.andThen_ok, run_sizeOf' hinf, run_underlying' hxT, Sem.run_pure, hdi, Bool.false_eq_true, if_false, hn,
    hc, if_true, Bool.not_false, hw]
  cases b with
  | none => simp only at hst ⊢; simp at hst ⊢; exact hst
  | some a => simp only [Sem.run_bind, hst, Result.andThen_ok]; rfl

theorem take_all {cs : List AV} {n : Nat} (h : cs.length = n) : cs.take n = cs := List.take_of_length_le (by omega)

theorem good_app_core (h : Sim base w0 K S w) {ts : Array TypeId} {ty e : TypeId} {inf : TypeInfo} {zv : Value} (hzsz : zv.cells.size = inf.size)
    {x r : AV} {vx vy : Value} {cs : List AV} {n : Nat} {S' : Mem} (hx : VR K S x vx) {new new' : Array Value} (hnR : RowR K S cs new) (hnR' : RowR K S cs new') (s2 : cs.length = n * inf.size)
    (Hin : ∀ (b : Option Addr) (len c : Nat) (w' : World), len + n ≤ c → (match b with | some a => storeCells (a.add (len * inf.size)) new.toList | none => pure () : Sem Unit).run P w = .ok () w' →
      (Builtin.append_ ts ty #[.slice b len c, vy]).run P w = .ok (.slice b (len + n) c) w')
    (Hgrow : ∀ (b : Option Addr) (len c : Nat) (old : Array Value), (Builtin.firstCells inf.size len (.slice b len c)).run P w.drew = .ok old w.drew → c < len + n → (len + n) * inf.bytes ≤ lim → len + n ≤ lim →
      ∃ cap, len + n ≤ cap ∧ (Builtin.append_ ts ty #[.slice b len c, vy]).run P w = .ok (.slice (some ⟨w.heap.size, 0, none⟩) (len + n) cap) (w.drew.alloc (.cells (old ++ new' ++ Builtin.zeroCells zv.cells (cap - (len + n))) e)))
    (ha : appV S inf.size inf.bytes x cs n = some (r, S')) :
    Good base w0 K S w r S' ((do let v ← Builtin.append_ ts ty #[vx, vy]; pure (Next.value v) : Sem Next).run P w) := by
  obtain ⟨hd1, hd2⟩ := h.drew
  -- a new block: the old cells and the new ones
  have grown : ∀ (b : Option Addr) (len c : Nat) (olds : List AV) (old : Array Value), vx = .slice b len c → (Builtin.firstCells inf.size len (.slice b len c)).run P w.drew = .ok old w.drew → RowR K S olds old → olds.length = len * inf.size →
      c < len + n → (len + n) * inf.bytes ≤ lim → len + n ≤ lim →
      Good base w0 K S w (.sl S.length 0 0 (len + n) (len + n) false) (S ++ [.cells (olds ++ cs) 0 (some inf.size) true]) ((do let v ← Builtin.append_ ts ty #[vx, vy]; pure (Next.value v) : Sem Next).run P w) := by
    intro b len c olds old hvx hold hoR hol hc hb hb'
    subst hvx
    obtain ⟨cap, hcap, hrun⟩ := Hgrow b len c old hold hc hb hb'
    have hosz : old.size = len * inf.size := by rw [← hoR.1, hol]
    have hnsz : new'.size = n * inf.size := by rw [← hnR'.1, s2]
    have hsz : (old ++ new' ++ Builtin.zeroCells zv.cells (cap - (len + n))).size = cap * inf.size := by
      simp only [Array.size_append, size_zeroCells, hzsz, hosz, hnsz, ← Nat.add_mul]
      congr 1; omega
    have hln : (len + n) * inf.size ≤ cap * inf.size := Nat.mul_le_mul_right _ hcap
    have hlen : (olds ++ cs).length = (len + n) * inf.size := by rw [List.length_append, hol, s2, Nat.add_mul]
    obtain ⟨K', g1, g2, g3, g4⟩ := good_row2 hd1 (olds ++ cs) (old ++ new' ++ Builtin.zeroCells zv.cells (cap - (len + n))) e (some inf.size) (0, 0) (by rw [hsz, hlen]; exact hln) (fun e => by cases e) (fun k hk => by
        by_cases hk1 : k < olds.length
        · have e1 : (olds ++ cs).getD k .u = olds.getD k .u := by simp [List.getD_eq_getElem?_getD, List.getElem?_append_left hk1]
          have hk2 : k < old.size := by have := hoR.1; omega
          have e2 : (old ++ new' ++ Builtin.zeroCells zv.cells (cap - (len + n))).getD k undef = old.getD k undef := by
            simp only [Array.getD_eq_getD_getElem?, Array.append_assoc]
            rw [Array.getElem?_append_left hk2]
          rw [e1, e2]; exact hoR.2 k
        · have hk3 : k - olds.length < cs.length := by rw [List.length_append] at hk; omega
          have e1 : (olds ++ cs).getD k .u = cs.getD (k - olds.length) .u := by
            simp only [List.getD_eq_getElem?_getD]
            rw [List.getElem?_append_right (by omega)]
          have hol2 : old.size = olds.length := hoR.1.symm
          have hk4 : k - old.size < new'.size := by have := hnR'.1; omega
          have e2 : (old ++ new' ++ Builtin.zeroCells zv.cells (cap - (len + n))).getD k undef = new'.getD (k - old.size) undef := by
            simp only [Array.getD_eq_getD_getElem?, Array.append_assoc]
            rw [Array.getElem?_append_right (by omega), Array.getElem?_append_left hk4]
          rw [e1, e2, hol2]; exact hnR'.2 _) (fun o _ => by simp)
    refine ⟨K', _, .slice (some ⟨w.heap.size, 0, none⟩) (len + n) cap, .inl (by simp [hrun]), ?_, g1, hd2.trans g2⟩
    refine .sl _ _ _ _ _ _ _ _ _ (new_at S _) (Nat.le_refl _) (Nat.le_refl _) hcap (fun e => by cases e) fun _ => ⟨by rw [g3]; rfl, fun _ => ⟨inf.size, rfl, ?_⟩⟩
    rw [g4, hsz]; omega
  unfold appV at ha
  split at ha
  · -- the nil slice
    cases hx
    split at ha
    · rename_i hn0
      injection ha with ha; injection ha with ha1 ha2; subst ha1; subst ha2
      subst hn0
      have hrun := Hin none 0 0 w (by omega) (by simp)
      exact Good.same h (by simp [hrun]) .sn
    · rename_i hn0
      split at ha
      · rename_i hb
        injection ha with ha; injection ha with ha1 ha2; subst ha1; subst ha2
        have := grown none 0 0 [] #[] rfl rfl ⟨by simp, fun k => by simp; exact .u _⟩ (by simp) (by omega) (by simpa using hb.1) (by omega)
        simpa using this
      · cases ha
  · split at ha
    · rename_i hn0
      injection ha with ha; injection ha with ha1 ha2; subst ha1; subst ha2
      subst hn0
      cases hx with
      | se a c =>
        have hnz : new = #[] := by
          apply Array.eq_empty_of_size_eq_zero; rw [← hnR.1, s2]; simp
        subst hnz
        have hrun := Hin (some a) 0 c w (by omega) (by simp [storeCells])
        exact Good.same (v := .slice (some a) 0 c) h (by simp [hrun]) (.se _ _)
    · cases ha
  · rename_i i o v len cap ex
    split at ha
    · rename_i hn0
      injection ha with ha; injection ha with ha1 ha2; subst ha1; subst ha2
      subst hn0
      have hx' := hx
      cases hx with
      | sl _ _ _ _ _ _ a c B hB hv hl hcc he hcur =>
        have hnz : new = #[] := by
          apply Array.eq_empty_of_size_eq_zero; rw [← hnR.1, s2]; simp
        subst hnz
        have hrun := Hin (some a) len c w (by omega) (by simp [storeCells])
        exact Good.same (v := .slice (some a) len c) h (by simp [hrun]) hx'
    · rename_i hn0
      split at ha
      · -- there is room that is known
        rename_i hroom
        split at ha
        · rename_i c0 ver op hB
          split at ha
          · rename_i hcond
            obtain ⟨rfl, hle, hone⟩ := hcond
            injection ha with ha; injection ha with ha1 ha2; subst ha1; subst ha2
            cases hx with
            | sl _ _ _ _ _ _ a c B hB' hv hl hcc he hcur =>
              rw [hB] at hB'; obtain rfl := Option.some.inj hB'
              obtain ⟨rfl, hop⟩ := hcur rfl
              have hmul : (len + n) * inf.size = len * inf.size + n * inf.size := Nat.add_mul _ _ _
              obtain ⟨w', hrun, hS', hst⟩ := Sim.storeCells (P := P) cs new.toList S w i ver c0 op (o + len * inf.size) 0 h hB (by omega) (by simpa using hnR.1)
                (fun k hk => by
                  have := hnR.2 k
                  have hk' : k < new.size := by have := hnR.1; omega
                  have e : new.toList.getD k undef = new.getD k undef := by simp [Array.getD, hk']
                  rw [e]; exact this) hone
              simp only [Nat.add_zero] at hS' hst
              rw [setList_eq _ _ _ (by omega)] at hS' hst
              have happ := Hin (some ⟨K.μ i, o, none⟩) len c w' (by omega) (by simp only [add_eq]; exact hrun)
              refine ⟨K, w', .slice (some ⟨K.μ i, o, none⟩) (len + n) c, .inl (by simp [happ]), ?_, hS', hst⟩
              have hil : i < S.length := (List.getElem?_eq_some_iff.1 hB).1
              exact .sl _ _ _ _ _ _ _ _ (.cells (splice c0 (o + len * inf.size) cs) ver op true) (by simp [hil]) (Nat.le_refl _) (by omega) hcc he fun _ => ⟨rfl, hop⟩
          · cases ha
        · cases ha
      · rename_i hroom
        split at ha
        · rename_i hb
          split at ha
          · -- certainly a new block
            rename_i hex
            split at ha
            · rename_i old hold
              injection ha with ha; injection ha with ha1 ha2; subst ha1; subst ha2
              obtain ⟨B, hB, hver⟩ := rowAt_ver hold
              cases hx with
              | sl _ _ _ _ _ _ a c B' hB' hv hl hcc he hcur =>
                rw [hB] at hB'; obtain rfl := Option.some.inj hB'
                obtain ⟨rfl, hop⟩ := hcur hver
                obtain ⟨hlen, g, hg, hV⟩ := rowAt_ok hd1 hold
                have hc' := he hex
                refine grown (some ⟨K.μ i, o, none⟩) len c old ((List.range (len * inf.size)).map g).toArray rfl ?_ (.of_lt (by simp [hlen]) fun k hk => ?_) hlen (by omega) hb.1 hb.2
                · simp only [Builtin.firstCells]; exact run_loadCells w.drew _ _ g hg
                · rw [range_getD _ _ _ (by omega)]; exact hV k (by omega)
            · cases ha
          · rename_i hex
            split at ha
            · rename_i c0 ver op hB
              split at ha
              · rename_i hcond
                obtain ⟨rfl, rfl, rfl, hle, hone⟩ := hcond
                injection ha with ha; injection ha with ha1 ha2; subst ha1; subst ha2
                have hexf : ex = false := by cases ex <;> simp at hex ⊢
                have hil : i < S.length := (List.getElem?_eq_some_iff.1 hB).1
                cases hx with
                | sl _ _ _ _ _ _ a c B' hB' hv hl hcc he hcur =>
                  rw [hB] at hB'; obtain rfl := Option.some.inj hB'
                  obtain ⟨rfl, hop⟩ := hcur rfl
                  obtain ⟨es, hes, hfit⟩ := hop hexf
                  simp only [Blk.opn, Option.some.injEq] at hes
                  subst hes
                  have hmul : (len + n) * inf.size = len * inf.size + n * inf.size := Nat.add_mul _ _ _
                  have hlen' : (c0.take (len * inf.size) ++ cs).length = (len + n) * inf.size := by
                    rw [List.length_append, List.length_take, s2, hmul]; omega
                  obtain ⟨cc, et, fz, q1, q2, q3, q4, q5, q6⟩ := h.blk i _ hB
                  obtain ⟨q7, q8⟩ := q6 rfl
                  by_cases hin : len + n ≤ c
                  · -- in place
                    have hcs : (len + n) * inf.size ≤ c * inf.size := Nat.mul_le_mul_right _ hin
                    obtain ⟨w', c', p1, p2, p3, p4, p5, p6, p7, p8, p9, p10⟩ := run_storeCells_conc (P := P) new.toList (K.μ i) (len * inf.size) 0 cc et fz w q1 (by
                        have : new.toList.length = n * inf.size := by rw [Array.length_toList, ← hnR.1, s2]
                        omega) (fun k hk => q8 k (Nat.lt_of_lt_of_le hk (endOf_ge _ _))) (fun u hu => by
                        obtain ⟨k, hk, rfl⟩ := List.mem_iff_getElem.1 hu
                        have hk' : k < new.size := by simpa using hk
                        have hkc : k < cs.length := by rw [hnR.1]; exact hk'
                        have hv := hnR.2 k
                        have e1 : new.getD k undef = new.toList[k] := by simp [Array.getD, hk']
                        have e2 : cs.getD k .u = cs[k] := by simp [List.getD_eq_getElem?_getD, hkc]
                        rw [e1, e2] at hv
                        exact hv.one (List.all_eq_true.1 hone _ (List.getElem_mem hkc)))
                    have happ := Hin (some ⟨K.μ i, 0, none⟩) len c w' hin (by simp only [add_eq, Nat.zero_add]; exact p1)
                    obtain ⟨g1, g2⟩ := h.turn (B' := .cells (c0.take (len * inf.size) ++ cs) (ver + 1) (some inf.size) true) (m := K.μ i) (n := K.σ i) (w' := w') hB (by simp [Blk.ver]) rfl (.inl rfl) p8 p9 p10 (by omega)
                      (fun k _ hk => p7 k hk) (fun K' S' hE e1 e2 => ⟨c', et, fz, by rw [e1]; exact p2, by rw [e2, p3]; exact q2, by rw [hlen', p3, q2]; omega, fun e => (by cases e), fun k hk => (by
                        by_cases hk1 : k < len * inf.size
                        · have e1 : (c0.take (len * inf.size) ++ cs).getD k .u = c0.getD k .u := by
                            simp only [List.getD_eq_getElem?_getD]
                            rw [List.getElem?_append_left (by simp; omega)]
                            simp [List.getElem?_take, hk1]
                          rw [e1, p4 k (by omega)]
                          exact (q5 k (by omega)).mono hE
                        · have hk3 : k - len * inf.size < cs.length := by rw [hlen', hmul] at hk; omega
                          have e1 : (c0.take (len * inf.size) ++ cs).getD k .u = cs.getD (k - len * inf.size) .u := by
                            simp only [List.getD_eq_getElem?_getD]
                            rw [List.getElem?_append_right (by simp; omega)]
                            congr 2; simp; omega
                          have hk4 : k - len * inf.size < new.toList.length := by rw [Array.length_toList, ← hnR.1]; exact hk3
                          have e2 := p5 (k - len * inf.size) hk4
                          rw [show len * inf.size + 0 + (k - len * inf.size) = k by omega] at e2
                          have hk5 : k - len * inf.size < new.size := by simpa using hk4
                          have e3 : new.toList.getD (k - len * inf.size) undef = new.getD (k - len * inf.size) undef := by simp [Array.getD, hk5]
                          rw [e1, e2, e3]
                          exact (hnR.2 _).mono hE), fun _ => ⟨by rw [e1]; exact q7, fun o ho => q8 o ((show c'.size = cc.size by omega) ▸ ho)⟩⟩)
                    refine ⟨_, w', .slice (some ⟨K.μ i, 0, none⟩) (len + n) c, .inl (by simp [happ]), ?_, g1, g2⟩
                    refine .sl _ _ _ _ _ _ _ _ (.cells (c0.take (len * inf.size) ++ cs) (ver + 1) (some inf.size) true) (by simp [hil]) (Nat.le_refl _) (Nat.le_refl _) hin (fun e => by cases e) fun _ => ⟨by rw [(K.put_same _ _ _).1], fun _ => ⟨inf.size, rfl, ?_⟩⟩
                    rw [(K.put_same _ _ _).2]; exact hfit
                  · -- elsewhere
                    have hrow : rowAt S i 0 ver (len * inf.size) = some (c0.take (len * inf.size)) := by
                      unfold rowAt
                      simp only [hB]
                      rw [if_pos ⟨trivial, by omega⟩, List.drop_zero]
                    obtain ⟨hlen, g, hg, hV⟩ := rowAt_ok hd1 hrow
                    obtain ⟨cap', hcap, hrun⟩ := Hgrow (some ⟨K.μ i, 0, none⟩) len c ((List.range (len * inf.size)).map g).toArray
                      (by simp only [Builtin.firstCells]; exact run_loadCells w.drew _ _ g hg) (by omega) hb.1 hb.2
                    have hnsz : new'.size = n * inf.size := by rw [← hnR'.1, s2]
                    generalize hold : ((List.range (len * inf.size)).map g).toArray = old at hrun
                    have hoR : RowR K S (c0.take (len * inf.size)) old := by
                      subst hold
                      refine .of_lt (by simp; omega) fun k hk => ?_
                      rw [range_getD _ _ _ (by omega)]; exact hV k (by omega)
                    have hosz : old.size = len * inf.size := by rw [← hoR.1, hlen]
                    have hsz : (old ++ new' ++ Builtin.zeroCells zv.cells (cap' - (len + n))).size = cap' * inf.size := by
                      simp only [Array.size_append, size_zeroCells, hzsz, hosz, hnsz, ← Nat.add_mul]
                      congr 1; omega
                    have hln : (len + n) * inf.size ≤ cap' * inf.size := Nat.mul_le_mul_right _ hcap
                    generalize hblk : old ++ new' ++ Builtin.zeroCells zv.cells (cap' - (len + n)) = blk at hrun hsz
                    obtain ⟨g1, g2⟩ := hd1.turn (B' := .cells (c0.take (len * inf.size) ++ cs) (ver + 1) (some inf.size) true) (m := w.heap.size) (n := cap' * inf.size) (w' := w.drew.alloc (.cells blk e)) hB (by simp [Blk.ver]) rfl (.inr (Nat.le_refl _)) rfl rfl rfl (by simp)
                      (fun k hk _ => Below.heap_alloc _ _ _ hk) (fun K' S' hE e1 e2 => ⟨blk, e, (0, 0), by rw [e1]; exact heap_new w.drew _, by rw [e2, hsz], by rw [hlen', hsz]; exact hln, fun e => (by cases e), fun k hk => (by
                        subst hblk
                        by_cases hk1 : k < len * inf.size
                        · have e1 : (c0.take (len * inf.size) ++ cs).getD k .u = (c0.take (len * inf.size)).getD k .u := by
                            simp only [List.getD_eq_getElem?_getD]
                            rw [List.getElem?_append_left (by omega)]
                          have e2 : (old ++ new' ++ Builtin.zeroCells zv.cells (cap' - (len + n))).getD k undef = old.getD k undef := by
                            simp only [Array.getD_eq_getD_getElem?, Array.append_assoc]
                            rw [Array.getElem?_append_left (by omega)]
                          rw [e1, e2]; exact (hoR.2 k).mono hE
                        · have hk3 : k - len * inf.size < cs.length := by rw [hlen', hmul] at hk; omega
                          have e1 : (c0.take (len * inf.size) ++ cs).getD k .u = cs.getD (k - len * inf.size) .u := by
                            simp only [List.getD_eq_getElem?_getD]
                            rw [List.getElem?_append_right (by omega), hlen]
                          have hk4 : k - old.size < new'.size := by rw [hosz, ← hnR'.1]; exact hk3
                          have e2 : (old ++ new' ++ Builtin.zeroCells zv.cells (cap' - (len + n))).getD k undef = new'.getD (k - old.size) undef := by
                            simp only [Array.getD_eq_getD_getElem?, Array.append_assoc]
                            rw [Array.getElem?_append_right (by omega), Array.getElem?_append_left hk4]
                          rw [e1, e2, hosz]; exact (hnR'.2 _).mono hE), fun _ => ⟨by rw [e1]; exact h.hb, fun o _ => by simp⟩⟩)
                    refine ⟨_, w.drew.alloc (.cells blk e), .slice (some ⟨w.heap.size, 0, none⟩) (len + n) cap', .inl (by simp [hrun]), ?_, g1, hd2.trans g2⟩
                    refine .sl _ _ _ _ _ _ _ _ (.cells (c0.take (len * inf.size) ++ cs) (ver + 1) (some inf.size) true) (by simp [hil]) (Nat.le_refl _) (Nat.le_refl _) hcap (fun e => by cases e) fun _ => ⟨by rw [(K.put_same _ _ _).1], fun _ => ⟨inf.size, rfl, ?_⟩⟩
                    rw [(K.put_same _ _ _).2]; omega
              · cases ha
            · cases ha
        · cases ha
  · cases ha

theorem good_app (h : Sim base w0 K S w) {sT xT ty e : TypeId} {inf : TypeInfo} {z : List AV} {d : TypeDesc} (ht : P.underlying sT = some (.slice e)) (hxT : P.underlying xT = some d) (hd : ∀ k, d ≠ .int k) (hinf : P.info? e = some inf) (hz : zeroOf P e = some z) (hzs : z.length = inf.size)
    {x y r : AV} {vx vy : Value} {cs : List AV} {n : Nat} {S' : Mem} (hx : VR K S x vx) (hy : VR K S y vy) (hs : srcV S inf.size y = some (cs, n)) (ha : appV S inf.size inf.bytes x cs n = some (r, S')) :
    Good base w0 K S w r S' ((do let v ← Builtin.append_ #[sT, xT] ty #[vx, vy]; pure (Next.value v) : Sem Next).run P w) := by
  obtain ⟨inf', zv, hi2, hz2, hz3⟩ := zeroOf_row hz
  rw [hinf] at hi2; obtain rfl := Option.some.inj hi2
  obtain ⟨s1, s2, s3⟩ := src_ok (P := P) h hy hs
  obtain ⟨new, hnew, hnR⟩ := s3 n (Nat.le_refl _)
  rw [take_all s2] at hnR
  obtain ⟨hd1, hd2⟩ := h.drew
  obtain ⟨_, _, t3⟩ := src_ok (P := P) hd1 hy hs
  obtain ⟨new', hnew', hnR'⟩ := t3 n (Nat.le_refl _)
  rw [take_all s2] at hnR'
  exact good_app_core h (by rw [← (hz3 K S).1, hzs]) hx hnR hnR' s2 (fun b len c w' hc hst => run_app_in ht hxT hd hinf s1 hnew hc hst)
    (fun b len c old ho hc hb hb' => run_app_grow ht hxT hd hinf hz2 s1 ho hnew' hc hb hb') ha

/-! ### append(x, make([]T, n)...) -/
theorem good_appz (h : Sim base w0 K S w) {sT xT ty e : TypeId} {inf : TypeInfo} {z : List AV} {q : IntKind} (ht : P.underlying sT = some (.slice e)) (hxT : P.underlying xT = some (.int q)) (hinf : P.info? e = some inf) (hz : zeroOf P e = some z) (hzs : z.length = inf.size)
    {x y r : AV} {vx vy : Value} {n : Nat} {S' : Mem} (hx : VR K S x vx) (hy : VR K S y vy) (hn : natV y = some n) (hl : n ≤ lim ∧ n * inf.bytes ≤ lim) (ha : appV S inf.size inf.bytes x (zerosV z n) n = some (r, S')) :
    Good base w0 K S w r S' ((do let v ← Builtin.append_ #[sT, xT] ty #[vx, vy]; pure (Next.value v) : Sem Next).run P w) := by
  obtain ⟨inf', zv, hi2, hz2, hz3⟩ := zeroOf_row hz
  rw [hinf] at hi2; obtain rfl := Option.some.inj hi2
  obtain ⟨k, rfl⟩ := natV_ok hy hn
  have hzl : zv.cells.size = inf.size := by rw [← (hz3 K S).1, hzs]
  have hzR : RowR K S (zerosV z n) (Builtin.zeroCells zv.cells n) := by
    have hq := zerosV_row (hz3 K S) n
    rw [show z.length = zv.cells.size by rw [hzs, hzl]] at hq
    exact hq
  have hlen : (zerosV z n).length = n * inf.size := by simp [zerosV, hzs]
  unfold lim at hl
  have hw : IntKind.i64.wrap (n : Int) = n := by
    rw [IntKind.wrap_i64]; omega
  have e0 : ¬ ((n : Int) < 0) := by omega
  have e1 : ¬ ((n : Int) * (inf.bytes : Int) > 2 ^ 48) := by
    have : ((n : Int) * (inf.bytes : Int)) = ((n * inf.bytes : Nat) : Int) := by push_cast; rfl
    rw [this]; omega
  have hnz : n * inf.size = 0 → Builtin.zeroCells zv.cells n = #[] := fun e => by
    apply Array.eq_empty_of_size_eq_zero
    rw [size_zeroCells, hzl, e]
  have new_run : ∀ w : World, ((if n * inf.size = 0 then pure #[] else do pure (Builtin.zeroCells (← zeroValue e).cells n)) : Sem (Array Value)).run P w = .ok (Builtin.zeroCells zv.cells n) w := by
    intro w
    split
    · rename_i e; rw [hnz e]; simp
    · simp only [Sem.run_bind, run_zeroValue' hinf hz2, Result.andThen_ok, Sem.run_pure]
  refine good_app_core (e := e) h hzl hx hzR hzR hlen (fun b len c w' hc hst => ?_) (fun b len c old ho hc hb hb' => ?_) ha
  · simp only [Builtin.append_, List.getElem?_toArray, List.getElem?_cons_zero, List.getElem?_cons_succ, Sem.run_bind, run_underlying' ht, Result.andThen_ok, run_sizeOf' hinf, run_underlying' hxT, Sem.run_pure, if_true, asInt, asIntOf, hw, e0, e1, if_false,
      run_typeInfo' hinf, Int.toNat_natCast, hc, Bool.not_true, Bool.false_eq_true, new_run]
    cases b with
    | none => simp only at hst ⊢; simp at hst ⊢; exact hst
    | some a => simp only [Sem.run_bind, hst, Result.andThen_ok]; rfl
  · refine ⟨(Question.appendCap (len + n) c e).cut (w.tape w.drawn (.appendCap (len + n) c e)), by simp [Question.cut], ?_⟩
    unfold lim at hb hb'
    have hg := growslice_fits (bytes := inf.bytes) hc (by omega)
    have hm : ¬ (IntKind.i64.max < ((len + n : Nat) : Int)) := by
      have : IntKind.i64.max = 9223372036854775807 := by decide
      rw [this]; omega
    have hnot : ¬ (len + n ≤ c) := by omega
    have hg' : ¬ (Builtin.nextslicecap (len + n) c * inf.bytes > 2 ^ 48) := by omega
    simp only [Builtin.append_, List.getElem?_toArray, List.getElem?_cons_zero, List.getElem?_cons_succ, Sem.run_bind, run_underlying' ht, Result.andThen_ok, run_sizeOf' hinf, run_underlying' hxT, Sem.run_pure, if_true, asInt, asIntOf, hw, e0, e1, if_false,
      run_typeInfo' hinf, Int.toNat_natCast, hnot, Bool.not_true, Bool.false_eq_true]
    have hA : ¬ (((len + n : Nat) : Int) > IntKind.i64.max ∧ (True ∨ inf.bytes = 0)) := fun hh => hm hh.1
    rw [if_neg hA]
    simp only [Sem.run_bind, run_typeInfo' hinf, Result.andThen_ok]
    rw [if_neg hg']
    simp [Question.forced, run_typeInfo' hinf, ho, new_run, run_zeroValue' hinf hz2, newRow]
    intro e0
    rw [hnz e0]
    simp
end
end Go.Proofs.YtmocapahlcaapaaGreatDoor

namespace Go.Proofs.YtmocapahlcaapaaGreatDoor
set_option linter.unusedSimpArgs false
set_option linter.unusedVariables false
open Go.RowKit

/-- Kinds of what has a length. -/
inductive LK where
  | str | slice | map
  deriving DecidableEq

/-- The operations, with what is to be known of types worked out. -/
inductive IO' where
  | mv (x : X)
  | pick (c a b : X)
  | fresh (z : List AV)
  | box (x : X)
  | build (z : List AV) (ps : List (Nat × Nat × X))
  | bslice (z : List AV) (len : Nat) (ps : List (Nat × Nat × X))
  | load (n : Option Nat) (x : X)
  | store (n : Nat) (x y : X)
  | nilck (x : X)
  | bin (tk : TK) (cst : Bool) (op : BinOp) (x y : X)
  | un (op : UnOp) (x : X)
  | toInt (k : IntKind) (x : X)
  | faddr (off : Nat) (x : X)
  | fld (off : Nat) (n : Option Nat) (x : X)
  | iaddr (arr : Option Nat) (size : Nat) (x ix : X)
  | ixa (len size : Nat) (m : Option Nat) (x ix : X)
  | ixs (x ix : X)
  | slice (size : Nat) (x : X) (lo hi mx : Option X)
  | sla (n size : Nat) (x : X) (lo hi mx : Option X)
  | sls (x : X) (lo hi : Option X)
  | ext (x : X) (k : Nat)
  | mkf (fn : Fn) (a b : List X)
  | mks (z : List AV) (bytes : Nat) (l c : X)
  | len (k : LK) (x : X)
  | copy (size : Nat) (x y : X)
  | app (size bytes : Nat) (x y : X)
  | mm (mx : Bool) (xs : List X)
  | eqag (neg : Bool) (ks : List TK) (x y : X)
  | same (x : X)
  | toStr (x : X)
  | toBytes (x : X)
  | ixbyte (x y : X)
  | mkno (n : X)
  | rng (x : X)
  | nxt (x : X)
  | ovl (x y : X)
  | clear (z : List AV) (x : X)
  | cap (x : X)
  | appz (z : List AV) (bytes : Nat) (x n : X)
  | mkmap (hint : Option X)
  | mlook (ag : Bool) (ks : List TK) (z : AV) (ok : Bool) (x k : X)
  | mentry (ag : Bool) (ks : List TK) (z : AV) (x k : X)
  | mstore (x st v : X)
  | mupd (ag : Bool) (ks : List TK) (x k v : X)
  | mdel (ag : Bool) (ks : List TK) (x k : X)
  | bad

/-- An operation, or a call. -/
inductive IOp where
  | op (io : IO')
  | call (f : FuncId) (xs : List X)
  | callv (x : X) (xs : List X)

def lenOk (k : LK) (x : AV) : Bool :=
  match k, x with
  | .str, .s _ => true
  | .slice, .sn => true
  | .slice, .se => true
  | .slice, .sl .. => true
  | .map, .mn => true
  | .map, .m _ => true
  | _, _ => false

/-- Two cells of one kind. -/
def eqCell : TK → AV → AV → Option Bool
  | .int, .i a m, .i b n => if a = b then some (m == n) else none
  | .bool, .b m, .b n => some (m == n)
  | .str, .s m, .s n => some (m == n)
  | _, _, _ => none

/-- Cells of like kinds, held against each other. -/
def eqCells : List TK → List AV → List AV → Option Bool
  | [], _, _ => some true
  | k :: ks, x :: xs, y :: ys => match eqCell k x y, eqCells ks xs ys with
    | some a, some b => some (a && b)
    | _, _ => none
  | _, _, _ => none

def eqAgV (neg : Bool) (ks : List TK) (x y : AV) : Option AV :=
  match x, y with
  | .ag xs, .ag ys => if xs.length = ks.length ∧ ys.length = ks.length then match eqCells ks xs ys with
      | some r => some (.b (if neg then !r else r))
      | none => none
    else none
  | _, _ => none

def mmV (mx : Bool) : AV → List AV → Option AV
  | x, [] => some x
  | .i k a, .i k' b :: r => if k = k' then mmV mx (.i k (if mx then (if b > a then b else a) else (if b < a then b else a))) r else none
  | _, _ => none

def bytesV : List AV → Option (List UInt8)
  | [] => some []
  | .i .u8 n :: r => match bytesV r with
    | some l => some (UInt8.ofNat n.toNat :: l)
    | none => none
  | _ => none

def toStrV (S : Mem) (x : AV) : Option AV :=
  match x with
  | .sn => some (.s [])
  | .se => some (.s [])
  | .sl i o v len _ _ => match rowAt S i o v len with
    | some cs => match bytesV cs with
      | some l => some (.s l)
      | none => none
    | none => none
  | _ => none

/-- A key's cells. -/
def keyC (ag : Bool) (ks : List TK) (x : AV) : Option (List AV) :=
  match ag, x with
  | true, .ag xs => if xs.length = ks.length then some xs else none
  | true, _ => none
  | false, .ag _ => none
  | false, .tu _ => none
  | false, .u => none
  | false, .ud => none
  | false, x => if ks.length = 1 then some [x] else none

/-- Where a key lies. -/
def findK (ag : Bool) (ks : List TK) (xs : List AV) : List (AV × AV × Nat) → Nat → Option (Option Nat)
  | [], _ => some none
  | e :: es, i => match keyC ag ks e.1 with
    | some ys => match eqCells ks xs ys with
      | some true => some (some i)
      | some false => findK ag ks xs es (i + 1)
      | none => none
    | none => none

def mapOf (S : Mem) : AV → Option (List (AV × AV × Nat))
  | .mn => some []
  | .m i => match S[i]? with
    | some (.map es _) => some es
    | _ => none
  | _ => none

def valAt (es : List (AV × AV × Nat)) (z : AV) : Option Nat → AV
  | some j => match es[j]? with
    | some e => e.2.1
    | none => z
  | none => z

def mlookV (S : Mem) (ag : Bool) (ks : List TK) (z : AV) (ok : Bool) (x k : AV) : Option AV :=
  match keyC ag ks k, mapOf S x with
  | some xs, some es => match findK ag ks xs es 0 with
    | some r => some (if ok then .tu [valAt es z r, .b r.isSome] else valAt es z r)
    | none => none
  | _, _ => none

def mentryV (S : Mem) (ag : Bool) (ks : List TK) (z : AV) (x k : AV) : Option (AV × Mem) :=
  match keyC ag ks k, x with
  | some xs, .m i => match S[i]? with
    | some (.map es cl) => match findK ag ks xs es 0 with
      | some (some j) => match es[j]? with
        | some e => some (.tu [e.2.1, .i .i64 e.2.2], S.set i (.map (es.set j (k, e.2.1, e.2.2)) cl))
        | none => none
      | some none => some (.tu [z, .i .i64 cl], S.set i (.map (es ++ [(k, z, cl)]) (cl + 1)))
      | none => none
    | _ => none
  | _, _ => none

def mstoreV (S : Mem) (x st v : AV) : Option Mem :=
  match x, st with
  | .m i, .i _ born => match S[i]? with
    | some (.map es cl) => match es.findIdx? (fun e => ((e.2.2 : Nat) : Int) == born) with
      | some j => match es[j]? with
        | some e => some (S.set i (.map (es.set j (e.1, v, e.2.2)) cl))
        | none => none
      | none => none
    | _ => none
  | _, _ => none

def mupdV (S : Mem) (ag : Bool) (ks : List TK) (x k v : AV) : Option Mem :=
  match keyC ag ks k, x with
  | some xs, .m i => match S[i]? with
    | some (.map es cl) => match findK ag ks xs es 0 with
      | some (some j) => match es[j]? with
        | some e => some (S.set i (.map (es.set j (k, v, e.2.2)) cl))
        | none => none
      | some none => some (S.set i (.map (es ++ [(k, v, cl)]) (cl + 1)))
      | none => none
    | _ => none
  | _, _ => none

def mdelV (S : Mem) (ag : Bool) (ks : List TK) (x k : AV) : Option Mem :=
  match keyC ag ks k, x with
  | some _, .mn => some S
  | some xs, .m i => match S[i]? with
    | some (.map es cl) => match findK ag ks xs es 0 with
      | some (some j) => some (S.set i (.map (es.eraseIdx j) cl))
      | some none => some S
      | none => none
    | _ => none
  | _, _ => none

def capV : AV → Option Nat
  | .sn => some 0
  | .sl _ _ _ _ cap true => some cap
  | _ => none

/-- A slice's cells are set to zero. -/
def clearV (S : Mem) (z : List AV) : AV → Option (AV × Mem)
  | .sn => some (.tu [], S)
  | .se => some (.tu [], S)
  | .sl i o v len _ _ => if len = 0 then some (.tu [], S) else match S[i]? with
    | some (.cells cs ver op true) => if ver = v ∧ o + len * z.length ≤ cs.length ∧ (zerosV z len).all AV.one = true then some (.tu [], S.set i (.cells (splice cs o (zerosV z len)) v op true)) else none
    | _ => none
  | _ => none

def evParts (e : Env) (ps : List (Nat × Nat × X)) : List (Nat × Nat × AV) := ps.map fun p => (p.1, p.2.1, p.2.2.ev e)

/-- Two blocks of which the first is plain memory, the second has cells. -/
def apartB (a b : Option Blk) (o v v2 : Nat) : Bool := match a, b with
  | some (.cells cs ver op true), some (.cells cs2 ver2 _ _) => decide (ver = v ∧ ver2 = v2 ∧ op ≠ some 1 ∧ o ≤ cs.length ∧ 0 < cs2.length)
  | _, _ => false

/-- An operation that calls nothing. -/
def evIO (e : Env) (S : Mem) : IO' → Option (AV × Mem)
  | .mv x => some (x.ev e, S)
  | .pick c a b => match c.ev e with
    | .b true => some (a.ev e, S)
    | .b false => some (b.ev e, S)
    | _ => none
  | .fresh z => some (.p S.length 0 0, S ++ [.cells z 0 none true])
  | .box x => match (x.ev e).cells with
    | some cs => some (.p S.length 0 0, S ++ [.cells cs 0 none true])
    | none => none
  | .build z ps => match fillV z (evParts e ps) with
    | some r => some (.ag r, S)
    | none => none
  | .bslice z len ps => match fillV (zerosV z len) (evParts e ps) with
    | some r => some (.sl S.length 0 0 len len true, S ++ [.cells r 0 none true])
    | none => none
  | .load n x => match ldCells S n (x.ev e) with
    | some y => some (y, S)
    | none => none
  | .store n x y => match stCells S n (x.ev e) (y.ev e) with
    | some S' => some (.u, S')
    | none => none
  | .nilck x => match nilV (x.ev e) with
    | some y => some (y, S)
    | none => none
  | .bin tk cst op x y => match binV tk cst op (x.ev e) (y.ev e) with
    | some z => some (z, S)
    | none => none
  | .un op x => match unV op (x.ev e) with
    | some y => some (y, S)
    | none => none
  | .toInt k x => match toIntV k (x.ev e) with
    | some y => some (y, S)
    | none => none
  | .faddr off x => match faddrV off (x.ev e) with
    | some y => some (y, S)
    | none => none
  | .fld off n x => match fldV off n (x.ev e) with
    | some y => some (y, S)
    | none => none
  | .iaddr arr size x ix => match iaddrV arr size (x.ev e) (ix.ev e) with
    | some y => some (y, S)
    | none => none
  | .ixa len size m x ix => match ixaV len size m (x.ev e) (ix.ev e) with
    | some y => some (y, S)
    | none => none
  | .ixs x ix => match ixsV (x.ev e) (ix.ev e) with
    | some y => some (y, S)
    | none => none
  | .slice size x lo hi mx => match sliceV S size (x.ev e) (lo.map (·.ev e)) (hi.map (·.ev e)) (mx.map (·.ev e)) with
    | some y => some (y, S)
    | none => none
  | .sla n size x lo hi mx => match slaV n size (x.ev e) (lo.map (·.ev e)) (hi.map (·.ev e)) (mx.map (·.ev e)) with
    | some y => some (y, S)
    | none => none
  | .sls x lo hi => match slsV (x.ev e) (lo.map (·.ev e)) (hi.map (·.ev e)) with
    | some y => some (y, S)
    | none => none
  | .ext x k => match extV k (x.ev e) with
    | some y => some (y, S)
    | none => none
  | .mkf fn a b => some (.f fn (a.map (·.ev e)) (b.map (·.ev e)), S)
  | .mks z bytes l c => match natV (l.ev e), natV (c.ev e) with
    | some l, some c => if l ≤ c ∧ bytes * c ≤ 140737488355328 ∧ c ≤ 140737488355328 then some (.sl S.length 0 0 l c true, S ++ [.cells (zerosV z c) 0 none true]) else none
    | _, _ => none
  | .len k x => if lenOk k (x.ev e) then match lenV S (x.ev e) with
      | some n => some (.i .i64 n, S)
      | none => none
    else none
  | .copy size x y => match copyV S size (x.ev e) (y.ev e) with
    | some (n, S') => some (.i .i64 n, S')
    | none => none
  | .app size bytes x y => match srcV S size (y.ev e) with
    | some (cs, n) => appV S size bytes (x.ev e) cs n
    | none => none
  | .mm mx xs => match xs.map (·.ev e) with
    | x :: r => match mmV mx x r with
      | some y => some (y, S)
      | none => none
    | [] => none
  | .eqag neg ks x y => match eqAgV neg ks (x.ev e) (y.ev e) with
    | some z => some (z, S)
    | none => none
  | .same x => match x.ev e with
    | .s l => some (.s l, S)
    | _ => none
  | .toStr x => match toStrV S (x.ev e) with
    | some y => some (y, S)
    | none => none
  | .toBytes x => match x.ev e with
    | .s l => some (if l.length = 0 then .se else .sl S.length 0 0 l.length l.length false, S ++ [.cells (l.map fun b => .i .u8 b.toNat) 0 (some 1) true])
    | _ => none
  | .clear z x => clearV S z (x.ev e)
  | .ixbyte x y => match x.ev e, y.ev e with
    | .s l, .i .u8 c => some (.i .i64 (Lib.indexByte l c.toNat.toUInt8), S)
    | _, _ => none
  | .ovl x y => match x.ev e, y.ev e with
    | .sl i o v _ _ _, .sl j _ v2 _ _ _ => if i ≠ j ∧ apartB (S[i]?) (S[j]?) o v v2 = true then some (.b false, S) else none
    | _, _ => none
  | .rng x => match x.ev e with
    | .m j => match S[j]? with
      | some (.map _ _) => some (.p S.length 0 0, S ++ [.itr (.m j)])
      | _ => none
    | _ => none
  | .nxt x => match x.ev e with
    | .p i 0 0 => match S[i]? with
      | some (.itr (.m j)) => match S[j]? with
        | some (.map [] _) => some (.tu [.b false], S)
        | _ => none
      | _ => none
    | _ => none
  | .mkno n => match n.ev e with
    | .i .i64 z => if 0 < z ∧ z ≤ 140737488355328 then some (.sl S.length 0 0 z.toNat z.toNat false, S ++ [.cells (List.replicate z.toNat .u) 0 (some 1) true]) else none
    | _ => none
  | .cap x => match capV (x.ev e) with
    | some n => some (.i .i64 n, S)
    | none => none
  | .appz z bytes x n => match natV (n.ev e) with
    | some n => if n ≤ lim ∧ n * bytes ≤ lim then appV S z.length bytes (x.ev e) (zerosV z n) n else none
    | none => none
  | .mkmap h => match h.map (·.ev e) with
    | none => some (.m S.length, S ++ [.map [] 0])
    | some (.i _ _) => some (.m S.length, S ++ [.map [] 0])
    | _ => none
  | .mlook ag ks z ok x k => match mlookV S ag ks z ok (x.ev e) (k.ev e) with
    | some y => some (y, S)
    | none => none
  | .mentry ag ks z x k => mentryV S ag ks z (x.ev e) (k.ev e)
  | .mstore x st v => match mstoreV S (x.ev e) (st.ev e) (v.ev e) with
    | some S' => some (.u, S')
    | none => none
  | .mupd ag ks x k v => match mupdV S ag ks (x.ev e) (k.ev e) (v.ev e) with
    | some S' => some (.u, S')
    | none => none
  | .mdel ag ks x k => match mdelV S ag ks (x.ev e) (k.ev e) with
    | some S' => some (.tu [], S')
    | none => none
  | .bad => none

/-- What a function does with arguments and memory. -/
abbrev Spec := List AV → Mem → Option (AV × Mem)

/-- What is known of calls: of functions, and of the 'yield' of the loop whose record is the block. -/
structure Orc where
  fn : FuncId → Spec
  y : Nat → Spec

def evOp (O : Orc) (e : Env) (S : Mem) : IOp → Option (AV × Mem)
  | .call f xs => O.fn f (xs.map (·.ev e)) S
  | .callv x xs => match x.ev e with
    | .f (.func f) a b => O.fn f (a ++ xs.map (·.ev e) ++ b) S
    | .y i => O.y i (xs.map (·.ev e)) S
    | _ => none
  | .op o => evIO e S o

structure ROp where
  dst : Option Nat
  guard : Option (Nat × Bool)
  io : IOp

def putE (e : Env) : Option Nat → AV → Env
  | some t, x => (t, x) :: e
  | none, _ => e

def wantV (e : Env) : Option (Nat × Bool) → Option Bool
  | none => some true
  | some (t, b) => match e.get t with
    | .b x => some (x == b)
    | .u => none
    | _ => some false

def evOne (O : Orc) (e : Env) (S : Mem) (o : ROp) : Option (AV × Mem) :=
  match wantV e o.guard with
  | none => none
  | some false => some (.ud, S)
  | some true => evOp O e S o.io

def evOps (O : Orc) : List ROp → Env → Mem → Option (Env × Mem)
  | [], e, S => some (e, S)
  | o :: r, e, S => match evOne O e S o with
    | none => none
    | some (x, S') => evOps O r (putE e o.dst x) S'

/-- A stage of a region whose order is drawn: what turns no memory (and until which stage it may come); one new row; what may turn memory. -/
structure Stage where
  ns : List (ROp × Nat)
  a : Option ROp
  m : Option ROp

inductive ICode where
  | bad
  | skip
  | region (ops : List ROp)
  | draw (st : List Stage) (late : List Nat)
  | seq (a b : ICode)
  | cond (c : X) (a b : ICode)
  | block (id : Nat) (c : ICode)
  | loop (live : List Nat) (c : ICode)
  | exit (id : Nat)
  | ret
  | goto (l : Nat)
  | scope (live : List Nat) (start : ICode) (lab : Nat) (cont : ICode)
  | rf (x : X) (f : Nat) (path : List Bool) (keep : List Nat)
  | live (l : List Nat) (c : ICode)

inductive IX where
  | normal
  | exit (id : Nat)
  | ret
  | goto (l : Nat)

def Jump.ix : Jump → IX
  | .ret => .ret
  | .exit id => .exit id
  | .goto l => .goto l

/-- The slots that are kept. -/
def keepE (e : Env) (l : List Nat) : Env := l.map fun t => (t, e.get t)

mutual
/-- Surely alike. -/
def avEqv : AV → AV → Bool
  | .u, .u => true
  | .ud, .ud => true
  | .b x, .b x' => x == x'
  | .i k n, .i k' n' => decide (k = k') && n == n'
  | .s l, .s l' => l == l'
  | .pn, .pn => true
  | .p a b c, .p a' b' c' => a == a' && b == b' && c == c'
  | .sn, .sn => true
  | .se, .se => true
  | .sl a b c d e f, .sl a' b' c' d' e' f' => a == a' && b == b' && c == c' && d == d' && e == e' && f == f'
  | .mn, .mn => true
  | .m a, .m a' => a == a'
  | .nf, .nf => true
  | .ni, .ni => true
  | .y a, .y a' => a == a'
  | .f (.func a) x z, .f (.func a') x' z' => a == a' && avEqvL x x' && avEqvL z z'
  | .it t x, .it t' x' => t == t' && avEqv x x'
  | .ag x, .ag x' => avEqvL x x'
  | .tu x, .tu x' => avEqvL x x'
  | _, _ => false
def avEqvL : List AV → List AV → Bool
  | [], [] => true
  | x :: xs, x' :: xs' => avEqv x x' && avEqvL xs xs'
  | _, _ => false
end

/-! ### Which slots an operation looks at -/
def X.use : X → List Nat
  | .t n => [n]
  | .c _ => []
def optUse : Option X → List Nat
  | some x => x.use
  | none => []
def IO'.use : IO' → List Nat
  | .mv x | .box x | .load _ x | .nilck x | .un _ x | .toInt _ x | .faddr _ x | .fld _ _ x | .ext x _ | .len _ x | .same x | .toStr x | .toBytes x | .clear _ x | .cap x | .mkno x | .rng x | .nxt x => x.use
  | .pick a b c => a.use ++ b.use ++ c.use
  | .fresh _ => []
  | .build _ ps | .bslice _ _ ps => ps.flatMap fun p => p.2.2.use
  | .store _ x y | .bin _ _ _ x y | .iaddr _ _ x y | .ixa _ _ _ x y | .ixs x y | .mks _ _ x y | .copy _ x y | .app _ _ x y | .eqag _ _ x y | .appz _ _ x y | .ixbyte x y | .ovl x y => x.use ++ y.use
  | .slice _ x a b c | .sla _ _ x a b c => x.use ++ optUse a ++ optUse b ++ optUse c
  | .sls x a b => x.use ++ optUse a ++ optUse b
  | .mkf _ a b => a.flatMap X.use ++ b.flatMap X.use
  | .mkmap h => optUse h
  | .mlook _ _ _ _ x k => x.use ++ k.use
  | .mentry _ _ _ x k => x.use ++ k.use
  | .mdel _ _ x k => x.use ++ k.use
  | .mstore x y z | .mupd _ _ x y z => x.use ++ y.use ++ z.use
  | .mm _ xs => xs.flatMap X.use
  | .bad => []
def IOp.use : IOp → List Nat
  | .op io => io.use
  | .call _ xs => xs.flatMap X.use
  | .callv x xs => x.use ++ xs.flatMap X.use
def evNs (O : Orc) : List (ROp × Nat) → Env → Mem → Option Env
  | [], e, _ => some e
  | (o, _) :: r, e, S => match evOne O e S o with
    | none => none
    | some (x, _) => evNs O r (putE e o.dst x) S

def evOpt (O : Orc) (o : Option ROp) (e : Env) (S : Mem) : Option (Env × Mem) :=
  match o with
  | none => some (e, S)
  | some o => match evOne O e S o with
    | none => none
    | some (x, S') => some (putE e o.dst x, S')

/-- What is noted of a stage: the memory ahead of it; the slots ahead of its new row; ahead of what may turn memory; behind it. -/
structure Noted where
  S : Mem
  e1 : Env
  e2 : Env
  e3 : Env

/-- The run in one order. -/
def evStages (O : Orc) : List Stage → Env → Mem → Option (Env × Mem × List Noted)
  | [], e, S => some (e, S, [])
  | st :: r, e, S => match evNs O st.ns e S with
    | none => none
    | some e1 => match evOpt O st.a e1 S with
      | none => none
      | some (e2, S2) => match evOpt O st.m e2 S2 with
        | none => none
        | some (e3, S3) => match evStages O r e3 S3 with
          | none => none
          | some (ef, Sf, pre) => some (ef, Sf, ⟨S, e1, e2, e3⟩ :: pre)

/-- In a stage, and in the later ones, an operation yields what is noted. -/
def chkN (O : Orc) (er ef : Env) (pre : List Noted) (o : ROp) (hi : Nat) : Nat → Nat → Bool
  | 0, _ => true
  | fuel + 1, s => if s ≤ hi then match pre[s]? with
      | some N => (match evOne O er N.S o with
        | some (x, _) => (match o.dst with | some t => avEqv x (ef.get t) | none => true)
        | none => false) && chkN O er ef pre o hi fuel (s + 1)
      | none => false
    else true

/-- Slots that are alike. -/
def likeOn (e e' : Env) (l : List Nat) : Bool := l.all fun t => avEqv (e.get t) (e'.get t)

def ROp.use (o : ROp) : List Nat := o.io.use ++ (match o.guard with | some (t, _) => [t] | none => [])
def dstL (r : ROp) : List Nat := match r.dst with | some d => [d] | none => []

def chkOpt (er ef e e' : Env) : Option ROp → Bool
  | none => true
  | some o => likeOn e er o.use && likeOn e' ef (dstL o)

def chkStages (O : Orc) (er ef : Env) (pre : List Noted) : List Stage → List Noted → Nat → Bool
  | st :: r, N :: r', s => (st.ns.all fun p => chkN O er ef pre p.1 p.2 (p.2 + 1) s) && chkOpt er ef N.e1 N.e2 st.a && chkOpt er ef N.e2 N.e3 st.m && chkStages O er ef pre r r' (s + 1)
  | [], [], _ => true
  | _, _, _ => false

/-- 'late': slots that are written last, and read ahead of that. -/
def evDraw (O : Orc) (st : List Stage) (late : List Nat) (e : Env) (S : Mem) : Option (Env × Mem) :=
  match evStages O st e S with
  | some (ef, Sf, pre) => if chkStages O (keepE e late ++ ef) ef pre st pre 0 then some (ef, Sf) else none
  | none => none

def evCode (O : Orc) (rd : Bool) : Nat → ICode → Env → Mem → List Nat → Option (IX × Env × Mem × List Nat)
  | 0, _, _, _, _ => none
  | _ + 1, .bad, _, _, _ => none
  | _ + 1, .skip, e, S, d => some (.normal, e, S, d)
  | _ + 1, .region ops, e, S, d => match evOps O ops e S with
    | some (e', S') => some (.normal, e', S', d)
    | none => none
  | _ + 1, .draw st late, e, S, d => match evDraw O st late e S with
    | some (e', S') => some (.normal, e', S', d)
    | none => none
  | n + 1, .live l c, e, S, d => evCode O rd n c (keepE e l) S d
  | n + 1, .seq a b, e, S, d => match evCode O rd n a e S d with
    | some (.normal, e', S', d') => evCode O rd n b e' S' d'
    | r => r
  | n + 1, .cond c a b, e, S, d => match c.ev e with
    | .b true => evCode O rd n a e S d
    | .b false => evCode O rd n b e S d
    | _ => none
  | n + 1, .block id c, e, S, d => match evCode O rd n c e S d with
    | some (.exit id', e', S', d') => if id' = id then some (.normal, e', S', d') else some (.exit id', e', S', d')
    | r => r
  | n + 1, .loop l c, e, S, d => match evCode O rd n c (keepE e l) S d with
    | some (.normal, e', S', d') => evCode O rd n (.loop l c) e' S' d'
    | r => r
  | _ + 1, .exit id, e, S, d => some (.exit id, e, S, d)
  | _ + 1, .ret, e, S, d => some (.ret, e, S, d)
  | _ + 1, .goto l, e, S, d => some (.goto l, e, S, d)
  | n + 1, .scope l c lab k, e, S, d => match evCode O rd n c e S d with
    | some (.goto g, e', S', d') => if g = lab then evCode O rd n (.scope l k lab k) (keepE e' l) S' d' else none
    | r => r
  | _ + 1, .rf x f path keep, e, S, d => if rd then none else match x.ev e with
    | .f (.func g) a b => match O.fn g (a ++ [.y (S.length + 1)] ++ b) (S ++ [.dfr true, .loop f path (keepE e keep) .ready none]) with
      | some (_, S2) => match S2[S.length + 1]? with
        | some (.loop f' path' env st pend) => if st = .busy then none else
            some ((match pend with | none => .normal | some j => j.ix), e, S2.set (S.length + 1) (.loop f' path' env .exhausted pend), S.length :: d)
        | _ => none
      | none => none
    | _ => none

/-- Where a result lies: in a slot, or in a variable. -/
inductive IR where
  | tmp (t : Nat)
  | cell (t : Nat) (n : Option Nat)

structure IFunc where
  nparams : Nat
  results : List IR
  body : ICode
  loops : List (List Bool × List Nat × ICode × ICode)

def evRes (e : Env) (S : Mem) : IR → Option AV
  | .tmp t => some (e.get t)
  | .cell t n => ldCells S n (e.get t)

def evResults (e : Env) (S : Mem) : List IR → Option (List AV)
  | [] => some []
  | r :: rs => match evRes e S r, evResults e S rs with
    | some x, some xs => some (x :: xs)
    | _, _ => none

def resV : List AV → AV
  | [x] => x
  | xs => .tu xs

def argsE : Nat → List AV → Env
  | _, [] => []
  | k, x :: r => (k, x) :: argsE (k + 1) r

/-- The marks among the deferred calls are taken. -/
def evLeave : List Nat → Mem → Option Mem
  | [], S => some S
  | i :: r, S => match S[i]? with
    | some (.dfr true) => evLeave r (S.set i (.dfr false))
    | _ => none

def isEnd : IX → Bool
  | .normal => true
  | .ret => true
  | _ => false

def evFunc (O : Orc) (n : Nat) (F : IFunc) : Spec := fun args S =>
  if args.length = F.nparams then
    match evCode O false n F.body (argsE 0 args) S [] with
    | some (x, e, S', d) => if isEnd x then match evLeave d S' with
        | some S'' => match evResults e S'' F.results with
          | some xs => some (resV xs, S'')
          | none => none
        | none => none
      else none
    | none => none
  else none

def ixJump : IX → Option Jump
  | .normal => none
  | .ret => some .ret
  | .exit id => some (.exit id)
  | .goto l => some (.goto l)

def bindE : List Nat → List AV → Env → Env
  | p :: ps, x :: xs, e => bindE ps xs ((p, x) :: e)
  | _, _, e => e

/-- A round of a loop over a function. -/
def evRound (O : Orc) (n : Nat) (T : FuncId → Option IFunc) (i : Nat) : Spec := fun args S =>
  match S[i]? with
  | some (.loop f path env _ _) => match T f with
    | some F => match F.loops.find? (fun l => l.1 == path) with
      | some (_, ps, ia, ib) => if args.length = ps.length then match evCode O true n ia (bindE ps args env) S [] with
          | some (.normal, e1, S1, []) => match S1[i]? with
            | some (.loop f1 p1 env1 .ready pe1) => match evCode O true n ib e1 (S1.set i (.loop f1 p1 env1 .busy pe1)) [] with
              | some (x, _, S2, _) => match S2[i]? with
                | some (.loop f2 p2 env2 _ _) => some (.b (ixJump x).isNone, S2.set i (.loop f2 p2 env2 (if (ixJump x).isNone then .ready else .done) (ixJump x)))
                | _ => none
              | none => none
            | _ => none
          | _ => none
        else none
      | none => none
    | none => none
  | _ => none

end Go.Proofs.YtmocapahlcaapaaGreatDoor

namespace Go.Proofs.YtmocapahlcaapaaGreatDoor
set_option linter.unusedSimpArgs false
set_option linter.unusedVariables false
open Go.RowKit

/-- The scalars of fields in a row. -/
def flatFs (P : Program) (go : TypeId → Option (List TK)) : List Field → Nat → Option (List TK)
  | [], _ => some []
  | f :: fs, off => if f.name = "_" ∨ f.offset ≠ off then none else match go f.type, P.info? f.type with
    | some ks, some i => if i.size = ks.length then match flatFs P go fs (off + ks.length) with
        | some r => some (ks ++ r)
        | none => none
      else none
    | _, _ => none

/-- The scalars of which a type consists, none of them a float, an address, an interface. -/
def flatOf (P : Program) : Nat → TypeId → Option (List TK)
  | 0, _ => none
  | n + 1, t => match P.underlying t with
    | some (.int _) => some [.int]
    | some .bool => some [.bool]
    | some .string => some [.str]
    | some (.struct fs) => if P.stoodInHeld t then none else flatFs P (flatOf P n) fs.toList 0
    | some (.array len e) => match flatOf P n e, P.info? e with
      | some ks, some i => if i.size = ks.length then some (List.replicate len ks).flatten else none
      | _, _ => none
    | _ => none

/-- What is to be known of a map's keys. -/
def keyInfo (P : Program) (kt : TypeId) : Option (Bool × List TK) :=
  match P.underlying kt, flatOf P 20 kt with
  | some d, some ks => some (aggB d, ks)
  | _, _ => none

/-- The zero value of a type. -/
def zeroAV (P : Program) (t : TypeId) : Option AV :=
  match P.info? t with
  | some i => match i.zero with
    | some (.agg c) => (c.toList.mapM aconst).map .ag
    | some v => aconst v
    | none => none
  | none => none

def compXs (l : List Operand) : Option (List X) := l.mapM compX
def compXo : Option Operand → Option (Option X)
  | none => some none
  | some x => (compX x).map some

def compParts (pl : Nat → Option (Nat × Nat)) (ps : List (Nat × Operand)) : Option (List (Nat × Nat × X)) :=
  ps.mapM fun p => match pl p.1, compX p.2 with
    | some (off, n), some x => some (off, n, x)
    | _, _ => none

/-- A function that can be entered by its number. -/
def enterable (P : Program) (f : FuncId) : Bool :=
  match P.funcs[f]? with
  | some fn => !(fn.name == "runtime.NumGoroutine") && fn.body.isSome
  | none => false

def compBuiltin (P : Program) (b : Builtin) (args : List X) (ts : List TypeId) : Option IO' :=
  match b, args, ts with
  | .len, [x], [t] => match P.underlying t with
    | some .string => some (.len .str x)
    | some (.slice _) => some (.len .slice x)
    | some (.map _ _) => some (.len .map x)
    | _ => none
  | .copy, [x, y], [t, _] => match P.underlying t with
    | some (.slice e) => match P.info? e with
      | some i => some (.copy i.size x y)
      | none => none
    | _ => none
  | .append, [x, y], [t, u] => match P.underlying t, P.underlying u with
    | some (.slice e), some d => match P.info? e, zeroOf P e with
      | some i, some z => if z.length = i.size then (if (d matches .int _) then some (.appz z i.bytes x y) else some (.app i.size i.bytes x y)) else none
      | _, _ => none
    | _, _ => none
  | .clear, [x], [t] => match P.underlying t with
    | some (.slice e) => (zeroOf P e).map (.clear · x)
    | _ => none
  | .delete, [x, k], t :: _ => match P.underlying t with
    | some (.map kt _) => (keyInfo P kt).map fun q => .mdel q.1 q.2 x k
    | _ => none
  | .cap, [x], [t] => match P.underlying t with
    | some (.slice _) => some (.cap x)
    | _ => none
  | .max, xs, _ => some (.mm true xs)
  | .min, xs, _ => some (.mm false xs)
  | _, _, _ => none

/-- Of the functions without a body two are known. -/
def compExtern (P : Program) (f : FuncId) (xs : List X) : Option IO' :=
  match P.funcs[f]? with
  | some fn => if fn.body.isNone = true ∧ (Extern.findNext fn).isNone = true then
      match xs with
      | [x, y] => if fn.name = "internal/bytealg.IndexByteString" then some (.ixbyte x y) else
          if fn.origin = "slices.overlaps" ∧ (Extern.allGenericRows.lookup fn.name).isNone = true ∧ (Extern.allTypedRows.lookup fn.name).isNone = true ∧ (Extern.allRows.lookup fn.name).isNone = true ∧ (fn.name == "runtime.NumGoroutine") = false then
            match fn.params.toList, fn.resultTypes.toList with
            | [t1, t2], [t] => if t1 = t2 then match P.underlying t1 with
                | some (.slice e) => match P.info? e with
                  | some _ => some (.ovl x y)
                  | none => none
                | _ => none
              else none
            | _, _ => none
          else none
      | [x] => if fn.name = "internal/bytealg.MakeNoZero" then
          match fn.resultTypes.toList with
          | [t] => match P.underlying t with
            | some (.slice _) => some (.mkno x)
            | _ => none
          | _ => none
        else none
      | _ => none
    else none
  | none => none

def compOp (P : Program) : Op → Option IO'
  | .move x => (compX x).map .mv
  | .assign x => (compX x).map .mv
  | .pick c a b => match compX c, compX a, compX b with
    | some c, some a, some b => some (.pick c a b)
    | _, _, _ => none
  | .alloc t => (zeroOf P t).map .fresh
  | .box _ x => (compX x).map .box
  | .build t ps => match zeroOf P t, placesOf P t with
    | some z, some pl => (compParts pl ps.toList).map (.build z)
    | _, _ => none
  | .buildSlice t len ps => match P.underlying t with
    | some (.slice e) => match zeroOf P e, P.info? e with
      | some z, some i => if z.length = i.size ∧ len * i.size ≤ 16777216 then (compParts (fun k => some (k * i.size, i.size)) ps.toList).map (.bslice z len) else none
      | _, _ => none
    | _ => none
  | .load t x => match shapeOf P t, compX x with
    | some n, some x => some (.load n x)
    | _, _ => none
  | .store t x y => match P.info? t, compX x, compX y with
    | some i, some x, some y => some (.store i.size x y)
    | _, _, _ => none
  | .nilCheck x => (compX x).map .nilck
  | .binOp op t x y _ => match compX x, compX y with
    | some x', some y' => match kindOf P t with
      | some tk => some (.bin tk (isConst x || isConst y) op x' y')
      | none => match flatOf P 20 t with
        | some ks => if P.eqGuardType P.depth t = false then match op with
            | .eql => some (.eqag false ks x' y')
            | .neq => some (.eqag true ks x' y')
            | _ => none
          else none
        | none => none
    | _, _ => none
  | .unOp op _ x => (compX x).map (.un op)
  | .convert src dst x => match P.underlying src, P.underlying dst, compX x with
    | some _, some (.int k), some x => some (.toInt k x)
    | some .string, some .string, some x => some (.same x)
    | some .string, some (.slice e), some x => match P.underlying e with
      | some (.int .u8) => some (.toBytes x)
      | _ => none
    | some (.slice e), some .string, some x => match P.underlying e with
      | some (.int .u8) => some (.toStr x)
      | _ => none
    | _, _, _ => none
  | .makeFunc fn a b => match compXs a.toList, compXs b.toList with
    | some a, some b => some (.mkf fn a b)
    | _, _ => none
  | .makeSlice t l c => match P.underlying t with
    | some (.slice e) => match zeroOf P e, P.info? e, compX l, compX c with
      | some z, some i, some l, some c => if z.length = i.size then some (.mks z i.bytes l c) else none
      | _, _, _, _ => none
    | _ => none
  | .slice t x lo hi mx => match P.underlying t, compX x, compXo lo, compXo hi, compXo mx with
    | some (.slice e), some x, some lo, some hi, some mx => match P.info? e with
      | some i => some (.slice i.size x lo hi mx)
      | none => none
    | some (.array n e), some x, some lo, some hi, some mx => match P.info? e with
      | some i => some (.sla n i.size x lo hi mx)
      | none => none
    | some .string, some x, some lo, some hi, some none => some (.sls x lo hi)
    | _, _, _, _, _ => none
  | .fieldAddr t x k => match fieldOf P t k, compX x with
    | some (f, _), some x => some (.faddr f.offset x)
    | _, _ => none
  | .field t x k => match fieldOf P t k, compX x with
    | some (f, _), some x => match shapeOf P f.type with
      | some n => some (.fld f.offset n x)
      | none => none
    | _, _ => none
  | .indexAddr t x ix => match idxOf P t, compX x, compX ix with
    | some (arr, _, i), some x, some ix => some (.iaddr arr i.size x ix)
    | _, _, _ => none
  | .index t x ix => match P.underlying t, compX x, compX ix with
    | some .string, some x, some ix => some (.ixs x ix)
    | some (.array _ _), some x, some ix => match idxOf P t with
      | some (some len, e, i) => match shapeOf P e with
        | some m => some (.ixa len i.size m x ix)
        | none => none
      | _ => none
    | _, _, _ => none
  | .extract x k => (compX x).map (.ext · k)
  | .makeMap t r => match P.underlying t with
    | some (.map _ _) => (compXo r).map .mkmap
    | _ => none
  | .lookup t x k ok => match P.underlying t with
    | some (.map kt el) => match keyInfo P kt, zeroAV P el, compX x, compX k with
      | some q, some z, some x, some k => some (.mlook q.1 q.2 z ok x k)
      | _, _, _, _ => none
    | _ => none
  | .mapEntry t x k => match P.underlying t with
    | some (.map kt el) => match keyInfo P kt, zeroAV P el, compX x, compX k with
      | some q, some z, some x, some k => some (.mentry q.1 q.2 z x k)
      | _, _, _, _ => none
    | _ => none
  | .entryStore _ x s v => match compX x, compX s, compX v with
    | some x, some s, some v => some (.mstore x s v)
    | _, _, _ => none
  | .mapUpdate t x k v => match P.underlying t with
    | some (.map kt _) => match keyInfo P kt, compX x, compX k, compX v with
      | some q, some x, some k, some v => some (.mupd q.1 q.2 x k v)
      | _, _, _, _ => none
    | _ => none
  | .insert t x k v => match P.underlying t with
    | some (.map kt _) => match keyInfo P kt, compX x, compX k, compX v with
      | some q, some x, some k, some v => some (.mupd q.1 q.2 x k v)
      | _, _, _, _ => none
    | _ => none
  | .call c => match c.callee, compXs c.args.toList with
    | .builtin b, some xs => compBuiltin P b xs c.argTypes.toList
    | .value (.func f), some xs => compExtern P f xs
    | _, _ => none
  | .range t x => match P.underlying t with
    | some (.map _ _) => (compX x).map .rng
    | _ => none
  | .next x isS => if isS = false then (compX x).map .nxt else none
  | _ => none

def compCall (P : Program) : Op → Option IOp
  | .call c => match c.callee, compXs c.args.toList with
    | .value (.func f), some xs => if enterable P f then some (.call f xs) else none
    | .value x, some xs => (compX x).map (.callv · xs)
    | _, _ => none
  | _ => none

def compIO (P : Program) (o : Op) : IOp :=
  match compCall P o with
  | some io => io
  | none => match compOp P o with
    | some io => .op io
    | none => .op .bad

def compOper (P : Program) (ops : Array Oper) (o : Oper) : Option ROp :=
  match o.guard with
  | none => some ⟨o.dst, none, compIO P o.op⟩
  | some (j, b) => match (ops[j]?).bind (·.dst) with
    | some t => some ⟨o.dst, some (t, b), compIO P o.op⟩
    | none => none

/-- It turns no memory. -/
def IO'.still : IO' → Bool
  | .mv _ | .pick .. | .build .. | .load .. | .nilck _ | .bin .. | .un .. | .toInt .. | .faddr .. | .fld .. | .iaddr .. | .ixa .. | .ixs .. | .slice .. | .sla .. | .sls .. | .ext .. | .mkf .. | .len .. | .mm .. | .eqag .. | .same _ | .toStr _ | .cap _ | .mlook .. | .ixbyte .. | .ovl .. => true
  | _ => false
/-- It lays one new row. -/
def IO'.laying : IO' → Bool
  | .fresh _ | .bslice .. => true
  | _ => false

def IOp.still : IOp → Bool
  | .op io => io.still
  | _ => false
def IOp.laying : IOp → Bool
  | .op io => io.laying
  | _ => false

/-! ### Regions whose order is drawn -/
inductive Cls where
  | n (lo hi : Nat)
  | a (c : Nat)
  | m (j : Nat)

/-- The binding edges of an operation. -/
def directs (o : Oper) : List Nat := (o.after.toList.filter (Region.binds .any)).map (·.on)

structure Plan where
  anc : List (List Nat)
  ms : List Nat
  cls : List Cls
  late : List Nat

def Plan.isAnc (p : Plan) (i j : Nat) : Bool := (p.anc.getD i []).contains j

/-- All that comes ahead of each. -/
def ancOf (ops : List Oper) : List (List Nat) :=
  (ops.foldl (init := ([] : List (List Nat))) fun acc o => ((directs o).foldl (init := ([] : List Nat)) fun s d => (d :: (acc.reverse.getD d [])).foldl (fun s x => if s.contains x then s else x :: s) s) :: acc).reverse

def planOf (ops : List Oper) (rs : List ROp) : Plan :=
  let anc := ancOf ops
  let n := rs.length
  let isA (i j : Nat) : Bool := (anc.getD i []).contains j
  let io (i : Nat) : IOp := match rs[i]? with | some r => r.io | none => .op .bad
  let loud := (List.range n).filter fun i => !(io i).still
  let loose := loud.filter fun i => (io i).laying && loud.any fun j => !(i == j) && !(isA i j) && !(isA j i)
  let ms := loud.filter fun i => !(loose.contains i)
  let k := ms.length
  let lo (i : Nat) : Nat := (ms.filter fun m => isA i m).length
  let hi (i : Nat) : Nat := (List.range k).findIdx fun j => isA (ms.getD j 0) i
  ⟨anc, ms, (List.range n).map fun i => if loose.contains i then .a (hi i) else if (io i).still then .n (lo i) (hi i) else .m (ms.findIdx (· == i)),
    (List.range n).filter fun i => match rs[i]? with | some ⟨some t, _, _⟩ => (List.range n).any fun j => isA i j && ((match rs[j]? with | some r => r.use | none => []).contains t) | _ => false⟩

/-- The plan is right: see the proof of 'draw_ok'. -/
def planOk (ops : List Oper) (rs : List ROp) (N : Nat) (p : Plan) : Bool :=
  let n := rs.length
  let k := p.ms.length
  let cls (i : Nat) : Cls := p.cls.getD i (.m n)
  let r (i : Nat) : ROp := rs.getD i ⟨none, none, .op .bad⟩
  let ns := List.range n
  (ns.all fun i => (directs (ops.getD i default)).all (· < i)) &&
  (ns.all fun i => (p.anc.getD i []).all fun j => (directs (ops.getD i default)).any fun d => d == j || p.isAnc d j) &&
  ((List.range k).all fun j => decide (p.ms.getD j 0 < n) && (match cls (p.ms.getD j 0) with | .m j' => j' == j | _ => false) && (List.range j).all fun j' => p.isAnc (p.ms.getD j 0) (p.ms.getD j' 0)) &&
  (ns.all fun i => (match cls i with
    | .n lo hi => decide (lo ≤ hi) && decide (hi ≤ k) && (lo == 0 || p.isAnc i (p.ms.getD (lo - 1) 0)) && (hi == k || p.isAnc (p.ms.getD hi 0) i) && (r i).io.still
    | .a c => decide (c ≤ k) && (c == k || p.isAnc (p.ms.getD c 0) i) && (r i).io.laying && (r i).guard.isNone && (r i).dst.isSome && ns.all fun i' => (match cls i' with | .a c' => i' == i || !(c' == c) | _ => true)
    | .m j => p.ms[j]? == some i)) &&
  (p.late.all fun i => decide (i < n) && ns.all fun j => !(p.isAnc j i)) &&
  (ns.all fun i => (r i).use.all fun t => decide (t < N) && ns.all fun j => !((dstL (r j)).contains t) || (p.late.contains j && p.isAnc j i) || (!(p.late.contains j) && p.isAnc i j && (match cls j, cls i with | .a c, .m jm => decide (c ≤ jm) | .a _, _ => false | _, _ => true))) &&
  (ns.all fun i => (dstL (r i)).all fun t => decide (t < N) && ns.all fun j => j == i || !((dstL (r j)).contains t))

def lateSlots (rs : List ROp) (p : Plan) : List Nat := p.late.flatMap fun i => match rs[i]? with | some r => dstL r | none => []

def nsAt (rs : List ROp) (p : Plan) (s : Nat) : List (ROp × Nat) :=
  (List.range rs.length).filterMap fun i => match p.cls.getD i (.m rs.length), rs[i]? with
    | .n lo hi, some r => if lo == s then some (r, hi) else none
    | _, _ => none
def aAt (rs : List ROp) (p : Plan) (s : Nat) : Option ROp :=
  (List.range rs.length).findSome? fun i => match p.cls.getD i (.m rs.length), rs[i]? with
    | .a c, some r => if c == s then some r else none
    | _, _ => none
def mAt (rs : List ROp) (p : Plan) (s : Nat) : Option ROp :=
  match p.ms[s]? with
  | some i => rs[i]?
  | none => none

def stagesOf (rs : List ROp) (p : Plan) : List Stage := (List.range (p.ms.length + 1)).map fun s => ⟨nsAt rs p s, aAt rs p s, mAt rs p s⟩

/-! ### Which slots a loop's head wants -/
def Stage.uses (s : Stage) : List Nat := s.ns.flatMap (·.1.use) ++ (match s.a with | some o => o.use | none => []) ++ (match s.m with | some o => o.use | none => [])

def ICode.uses : ICode → List Nat
  | .region ops => ops.flatMap (·.use)
  | .draw st late => late ++ st.flatMap (·.uses)
  | .seq a b => a.uses ++ b.uses
  | .cond c a b => c.use ++ a.uses ++ b.uses
  | .block _ c => c.uses
  | .loop _ c => c.uses
  | .scope _ c _ k => c.uses ++ k.uses
  | .rf x _ _ keep => x.use ++ keep
  | .live _ c => c.uses
  | _ => []

/-- What lies at a place of the code. -/
def sub : Code → List Bool → Option Code
  | c, [] => some c
  | .seq a b, x :: p => sub (if x then b else a) p
  | .cond _ a b, x :: p => sub (if x then b else a) p
  | .block _ c, _ :: p => sub c p
  | .loop c, _ :: p => sub c p
  | .rangeFunc _ _ a b, x :: p => sub (if x then b else a) p
  | _, _ :: _ => none

/-- The labels in code. -/
def labels : Code → List Nat
  | .label l => [l]
  | .seq a b => labels a ++ labels b
  | .cond _ a b => labels a ++ labels b
  | .block _ c => labels c
  | .loop c => labels c
  | _ => []

def dstOk (N : Nat) (l : List ROp) : Bool := l.all fun o => match o.dst with | some d => decide (d < N) | none => true

def compCode (P : Program) (f N : Nat) : Option (List Bool) → Code → ICode
  | _, .skip => .skip
  | _, .label _ => .skip
  | _, .region _ ops dr => match ops.toList.mapM (compOper P ops) with
    | some l => if dr then
        let p := planOf ops.toList l
        if planOk ops.toList l N p then .draw (stagesOf l p) (lateSlots l p) else .bad
      else if dstOk N l then .region l else .bad
    | none => .bad
  | p, .seq a b => .seq (compCode P f N (p.map (false :: ·)) a) (compCode P f N (p.map (true :: ·)) b)
  | p, .cond c a b => match compX c with
    | some c => .cond c (compCode P f N (p.map (false :: ·)) a) (compCode P f N (p.map (true :: ·)) b)
    | none => .bad
  | p, .block id c => .block id (compCode P f N (p.map (false :: ·)) c)
  | p, .loop c => .loop [] (compCode P f N (p.map (false :: ·)) c)
  | _, .exit id => .exit id
  | _, .ret => .ret
  | _, .goto l => .goto l
  | p, .rangeFunc g _ a b => match compX g, p with
    | some x, some q => .rf x f q.reverse ((compCode P f N none a).uses ++ (compCode P f N none b).uses)
    | _, _ => .bad
  | _, _ => .bad

/-- Code that may hold a scope, at its top. -/
def compTop (P : Program) (f N : Nat) : Option (List Bool) → Code → ICode
  | p, .seq a b => .seq (compTop P f N (p.map (false :: ·)) a) (compTop P f N (p.map (true :: ·)) b)
  | _, .scope c => match labels c with
    | [lab] => match findLabel c lab with
      | some k => .scope [] (compCode P f N none c) lab (compCode P f N none k)
      | none => .bad
    | _ => .bad
  | p, .block id c => .block id (compTop P f N (p.map (false :: ·)) c)
  | p, c => compCode P f N p c

/-- The ways to the loops over functions. -/
def rfPaths : Code → List (List Bool)
  | .seq a b => (rfPaths a).map (false :: ·) ++ (rfPaths b).map (true :: ·)
  | .cond _ a b => (rfPaths a).map (false :: ·) ++ (rfPaths b).map (true :: ·)
  | .block _ c => (rfPaths c).map (false :: ·)
  | .loop c => (rfPaths c).map (false :: ·)
  | .rangeFunc _ _ a b => [] :: ((rfPaths a).map (false :: ·) ++ (rfPaths b).map (true :: ·))
  | _ => []

def compLoop (P : Program) (f N : Nat) (root : Code) (p : List Bool) : Option (List Bool × List Nat × ICode × ICode) :=
  match sub root p with
  | some (.rangeFunc _ ps a b) => if ps.toList.all (· < N) then
      let ib := compCode P f N none b
      some (p, ps.toList, compCode P f N none a, ib)
    else none
  | _ => none

def compRes (P : Program) : ResultVar → Option IR
  | .tmp t => some (.tmp t)
  | .cell t ty => (shapeOf P ty).map (.cell t)

def compFunc (P : Program) (f : Nat) : Option IFunc :=
  match P.funcs[f]? with
  | none => none
  | some fn => match fn.body with
    | none => none
    | some c => if enterable P f && decide (fn.params.size + fn.nfree ≤ fn.ntmps) then match fn.results.toList.mapM (compRes P) with
        | some rs =>
          some ⟨fn.params.size + fn.nfree, rs, compTop P f fn.ntmps (some []) c, (rfPaths c).filterMap (compLoop P f fn.ntmps c)⟩
        | none => none
      else none

/-- Without what is noted. -/
def strip : ICode → ICode
  | .seq a b => .seq (strip a) (strip b)
  | .cond c a b => .cond c (strip a) (strip b)
  | .block id c => .block id (strip c)
  | .loop _ c => .loop [] (strip c)
  | .scope _ a lab b => .scope [] (strip a) lab (strip b)
  | .live _ c => strip c
  | c => c
def stripF (F : IFunc) : IFunc := ⟨F.nparams, F.results, strip F.body, F.loops.map fun l => (l.1, l.2.1, strip l.2.2.1, strip l.2.2.2)⟩
/-- The loops over functions of the program. -/
def lamOf (P : Program) (f : Nat) (p : List Bool) : Option (Array Tmp × Code × Code × Nat) :=
  match P.funcs[f]? with
  | some fn => match fn.body with
    | some c => match sub c p with
      | some (.rangeFunc _ ps a b) => some (ps, a, b, fn.ntmps)
      | _ => none
    | none => none
  | none => none
end Go.Proofs.YtmocapahlcaapaaGreatDoor

namespace Go.Proofs.YtmocapahlcaapaaGreatDoor
set_option linter.unusedSimpArgs false
set_option linter.unusedVariables false
open Go.RowKit

section
variable {P : Program} {base : Bs} {w0 : World} {K : Ctx} {S : Mem} {w : World}

theorem eqCells_append : ∀ (k1 k2 : List TK) (x1 x2 y1 y2 : List AV) (r : Bool), x1.length = k1.length → y1.length = k1.length → eqCells (k1 ++ k2) (x1 ++ x2) (y1 ++ y2) = some r →
    ∃ a b, eqCells k1 x1 y1 = some a ∧ eqCells k2 x2 y2 = some b ∧ r = (a && b)
  | [], k2, x1, x2, y1, y2, r, hx, hy, h => by
    have e1 : x1 = [] := List.length_eq_zero_iff.1 hx
    have e2 : y1 = [] := List.length_eq_zero_iff.1 hy
    subst e1; subst e2
    exact ⟨true, r, rfl, h, by simp⟩
  | k :: k1, k2, x :: x1, x2, y :: y1, y2, r, hx, hy, h => by
    simp only [List.length_cons, Nat.add_right_cancel_iff] at hx hy
    simp only [List.cons_append, eqCells] at h
    split at h
    · rename_i a b ha hb
      obtain ⟨c, d, hc, hd, rfl⟩ := eqCells_append k1 k2 x1 x2 y1 y2 b hx hy hb
      injection h with h; subst h
      exact ⟨a && c, d, by simp [eqCells, ha, hc], hd, by cases a <;> simp⟩
    · cases h
  | _ :: _, _, [], _, _, _, _, hx, _, _ => by simp at hx
  | _ :: _, _, _ :: _, _, [], _, _, _, hy, _ => by simp at hy

/-- The cells of a value of the type. -/
def Fits (K : Ctx) (S : Mem) (agg : Bool) (xs : List AV) (v : Value) : Prop :=
  if agg then ∃ c, v = .agg c ∧ RowR K S xs c else ∃ x, xs = [x] ∧ VR K S x v

theorem run_eqCell {t : TypeId} {d : TypeDesc} (hd : P.underlying t = some d) {k : TK} (hk : (d = .bool ∧ k = .bool) ∨ ((∃ i, d = .int i) ∧ k = .int) ∨ (d = .string ∧ k = .str)) {x y : AV} {vx vy : Value} {r : Bool} (hx : VR K S x vx) (hy : VR K S y vy)
    (h : eqCell k x y = some r) (m : Nat) : (Op.equalIn (m + 1) t vx vy).run P w = .ok r w := by
  unfold eqCell at h
  split at h
  · cases hx; cases hy
    rcases hk with ⟨_, e⟩ | ⟨⟨i, rfl⟩, _⟩ | ⟨_, e⟩
    · cases e
    · split at h
      · rename_i e; subst e; injection h with h; subst h
        simp only [Op.equalIn, Sem.run_bind, run_underlying' hd, Result.andThen_ok, if_true]; rfl
      · cases h
    · cases e
  · cases hx; cases hy
    rcases hk with ⟨rfl, _⟩ | ⟨_, e⟩ | ⟨_, e⟩
    · injection h with h; subst h
      simp only [Op.equalIn, Sem.run_bind, run_underlying' hd, Result.andThen_ok]; rfl
    · cases e
    · cases e
  · cases hx; cases hy
    rcases hk with ⟨_, e⟩ | ⟨_, e⟩ | ⟨rfl, _⟩
    · cases e
    · cases e
    · rename_i m' n' _
      injection h with h; subst h
      simp only [Op.equalIn, Sem.run_bind, run_underlying' hd, Result.andThen_ok]
      have : ((ByteArray.mk m'.toArray) == (ByteArray.mk n'.toArray)) = (m' == n') := by
        rw [beq_toListBytes]; simp
      rw [this]; rfl
  · cases h

/-- What is to be shown of a type. -/
def EqFlat (P : Program) (n : Nat) (t : TypeId) (ks : List TK) : Prop :=
  ∀ (K : Ctx) (S : Mem) (w : World) (m : Nat) (xs ys : List AV) (vx vy : Value) (r : Bool), xs.length = ks.length → ys.length = ks.length → (∀ d, P.underlying t = some d → Fits K S (aggB d) xs vx ∧ Fits K S (aggB d) ys vy) →
    eqCells ks xs ys = some r → (Op.equalIn (n + m) t vx vy).run P w = .ok r w

/-- A part of a row. -/
theorem run_part_flat {t : TypeId} {d : TypeDesc} {inf : TypeInfo} (hd : P.underlying t = some d) (hi : P.info? t = some inf) {ks : List TK} (hs : inf.size = ks.length) (h1 : aggB d = false → ks.length = 1) {cs : List AV} {c : Array Value} (hr : RowR K S cs c) {off : Nat} (ho : off + ks.length ≤ cs.length) :
    ∃ v, (part t c off).run P w = .ok v w ∧ Fits K S (aggB d) ((cs.drop off).take ks.length) v := by
  have hsh : shapeOf P t = some (if aggB d then some inf.size else none) := by simp [shapeOf, hd, hi]
  cases e : aggB d with
  | true =>
    rw [e] at hsh
    obtain ⟨v, hv, hV⟩ := run_part (w := w) hsh hr.1 hr.2 (off := off) (y := .ag ((cs.drop off).take inf.size)) (by simp only [partV, if_true]; rw [if_pos (by omega)])
    rw [hs] at hV
    cases hV with
    | ag x x' hl hx => exact ⟨_, hv, by simp only [Fits, if_true]; exact ⟨x', rfl, hl, hx⟩⟩
  | false =>
    rw [e] at hsh
    have h1 := h1 e
    have hlt : off < cs.length := by omega
    obtain ⟨v, hv, hV⟩ := run_part (w := w) hsh hr.1 hr.2 (off := off) (y := cs[off]) (by simp [partV, hlt])
    refine ⟨v, hv, ?_⟩
    simp only [Fits, Bool.false_eq_true, if_false]
    refine ⟨cs[off], ?_, hV⟩
    rw [h1, List.drop_eq_getElem_cons hlt, List.take_succ_cons, List.take_zero]

theorem flat_one {n : Nat} {t : TypeId} {ks : List TK} {d : TypeDesc} (h : flatOf P n t = some ks) (hd : P.underlying t = some d) (ha : aggB d = false) : ks.length = 1 := by
  cases n with
  | zero => simp [flatOf] at h
  | succ n =>
    unfold flatOf at h
    rw [hd] at h
    cases d <;> simp [aggB] at ha <;> simp at h <;> subst h <;> rfl

theorem run_eqFields_flat {n : Nat} (IH : ∀ t ks, flatOf P n t = some ks → EqFlat P n t ks) {cx cy : Array Value} {xs ys : List AV} (hx : RowR K S xs cx) (hy : RowR K S ys cy) (m : Nat) :
    ∀ (fs : List Field) (off : Nat) (ks : List TK) (r : Bool), flatFs P (flatOf P n) fs off = some ks → off + ks.length ≤ xs.length → off + ks.length ≤ ys.length → eqCells ks ((xs.drop off).take ks.length) ((ys.drop off).take ks.length) = some r →
      (Op.eqFields (n + m) cx cy fs).run P w = .ok r w
  | [], off, ks, r, hf, h1, h2, he => by
    simp only [flatFs, Option.some.injEq] at hf
    subst hf
    simp only [eqCells, Option.some.injEq] at he
    subst he
    simp [Op.eqFields]
  | f :: fs, off, ks, r, hf, h1, h2, he => by
    simp only [flatFs] at hf
    split at hf
    · cases hf
    · rename_i hn
      simp only [not_or, Decidable.not_not] at hn
      obtain ⟨hn, ho⟩ := hn
      split at hf
      · rename_i k1 inf hk1 hinf
        split at hf
        · rename_i hsz
          split at hf
          · rename_i k2 hk2
            injection hf with hf; subst hf
            simp only [List.length_append] at h1 h2 he
            have sp : ∀ l : List AV, (l.drop off).take (k1.length + k2.length) = (l.drop off).take k1.length ++ (l.drop (off + k1.length)).take k2.length := by
              intro l
              rw [List.take_add, List.drop_drop]
            rw [sp, sp] at he
            obtain ⟨a, b, ha, hb, rfl⟩ := eqCells_append _ _ _ _ _ _ _ (by simp; omega) (by simp; omega) he
            have hu : ∃ d, P.underlying f.type = some d := by
              cases e : P.underlying f.type with
              | some d => exact ⟨d, rfl⟩
              | none => cases n <;> simp [flatOf, e] at hk1
            obtain ⟨d, hd⟩ := hu
            obtain ⟨vx, hvx, hfx⟩ := run_part_flat (w := w) hd hinf hsz (fun e => flat_one hk1 hd e) hx (off := off) (by omega)
            obtain ⟨vy, hvy, hfy⟩ := run_part_flat (w := w) hd hinf hsz (fun e => flat_one hk1 hd e) hy (off := off) (by omega)
            have hq := IH f.type k1 hk1 K S w m _ _ vx vy a (by simp; omega) (by simp; omega) (fun d' hd' => by
              rw [hd] at hd'; obtain rfl := Option.some.inj hd'; exact ⟨hfx, hfy⟩) ha
            have hrest := run_eqFields_flat IH hx hy m fs (off + k1.length) k2 b hk2 (by omega) (by omega) hb
            rw [Op.eqFields, if_pos hn, ho]
            simp only [Sem.run_bind, hvx, hvy, hq, Result.andThen_ok]
            cases a
            · simp
            · simpa using hrest
          · cases hf
        · cases hf
      · cases hf

theorem replicate_flatten_cons (len : Nat) (ks : List TK) : (List.replicate (len + 1) ks).flatten = ks ++ (List.replicate len ks).flatten := by
  simp [List.replicate_succ]

theorem run_eqItems_flat {n : Nat} {e : TypeId} {ks : List TK} (IH : EqFlat P n e ks) {d : TypeDesc} {inf : TypeInfo} (hd : P.underlying e = some d) (hi : P.info? e = some inf) (hs : inf.size = ks.length) (h1 : aggB d = false → ks.length = 1)
    {cx cy : Array Value} {xs ys : List AV} (hx : RowR K S xs cx) (hy : RowR K S ys cy) (m : Nat) :
    ∀ (len i : Nat) (r : Bool), i * ks.length + len * ks.length ≤ xs.length → i * ks.length + len * ks.length ≤ ys.length →
      eqCells (List.replicate len ks).flatten ((xs.drop (i * ks.length)).take (len * ks.length)) ((ys.drop (i * ks.length)).take (len * ks.length)) = some r →
      (Op.eqItems (n + m) e inf.size cx cy (List.range' i len)).run P w = .ok r w
  | 0, i, r, _, _, he => by
    simp [eqCells] at he
    subst he
    simp [Op.eqItems]
  | len + 1, i, r, hlx, hly, he => by
    have em : (len + 1) * ks.length = ks.length + len * ks.length := by rw [Nat.add_mul, Nat.one_mul, Nat.add_comm]
    have em2 : (i + 1) * ks.length = i * ks.length + ks.length := by rw [Nat.add_mul, Nat.one_mul]
    rw [em] at hlx hly he
    have sp : ∀ l : List AV, (l.drop (i * ks.length)).take (ks.length + len * ks.length) = (l.drop (i * ks.length)).take ks.length ++ (l.drop ((i + 1) * ks.length)).take (len * ks.length) := by
      intro l
      rw [List.take_add, List.drop_drop, em2]
    rw [replicate_flatten_cons, sp, sp] at he
    obtain ⟨a, b, ha, hb, rfl⟩ := eqCells_append _ _ _ _ _ _ _ (by simp; omega) (by simp; omega) he
    obtain ⟨vx, hvx, hfx⟩ := run_part_flat (w := w) hd hi hs h1 hx (off := i * ks.length) (by omega)
    obtain ⟨vy, hvy, hfy⟩ := run_part_flat (w := w) hd hi hs h1 hy (off := i * ks.length) (by omega)
    have hq := IH K S w m _ _ vx vy a (by simp; omega) (by simp; omega) (fun d' hd' => by
      rw [hd] at hd'; obtain rfl := Option.some.inj hd'; exact ⟨hfx, hfy⟩) ha
    have hrest := run_eqItems_flat IH hd hi hs h1 hx hy m len (i + 1) b (by omega) (by omega) hb
    rw [List.range'_succ, Op.eqItems, hs]
    simp only [Sem.run_bind, hvx, hvy, hq, Result.andThen_ok]
    cases a
    · simp
    · rw [hs] at hrest
      simpa using hrest

theorem run_eq_flat : ∀ (n : Nat) (t : TypeId) (ks : List TK), flatOf P n t = some ks → EqFlat P n t ks
  | 0, t, ks, h => by simp [flatOf] at h
  | n + 1, t, ks, h => by
    intro K S w m xs ys vx vy r hlx hly hf he
    have em : n + 1 + m = (n + m) + 1 := by omega
    unfold flatOf at h
    split at h
    · rename_i k hd
      injection h with h; subst h
      obtain ⟨⟨x, rfl, hx⟩, y, rfl, hy⟩ := hf _ hd
      simp only [eqCells] at he
      split at he
      · rename_i a b ha hb
        injection hb with hb; subst hb
        injection he with he; subst he
        rw [em, run_eqCell hd (.inr (.inl ⟨⟨k, rfl⟩, rfl⟩)) hx hy ha]; simp
      · cases he
    · rename_i hd
      injection h with h; subst h
      obtain ⟨⟨x, rfl, hx⟩, y, rfl, hy⟩ := hf _ hd
      simp only [eqCells] at he
      split at he
      · rename_i a b ha hb
        injection hb with hb; subst hb
        injection he with he; subst he
        rw [em, run_eqCell hd (.inl ⟨rfl, rfl⟩) hx hy ha]; simp
      · cases he
    · rename_i hd
      injection h with h; subst h
      obtain ⟨⟨x, rfl, hx⟩, y, rfl, hy⟩ := hf _ hd
      simp only [eqCells] at he
      split at he
      · rename_i a b ha hb
        injection hb with hb; subst hb
        injection he with he; subst he
        rw [em, run_eqCell hd (.inr (.inr ⟨rfl, rfl⟩)) hx hy ha]; simp
      · cases he
    · rename_i fs hd
      obtain ⟨⟨cx, rfl, hx⟩, cy, rfl, hy⟩ := hf _ hd
      split at h
      · cases h
      · rename_i hst
        have hfs : P.fieldsOf t = fs := by simp [Program.fieldsOf, hd]
        rw [em, run_equalIn_struct w (n + m) t cx cy (by rw [hfs]; exact hd) (by simpa using hst), hfs]
        refine run_eqFields_flat (fun t ks h => run_eq_flat n t ks h) hx hy m fs.toList 0 ks r h (by omega) (by omega) ?_
        simp only [List.drop_zero]
        rw [List.take_of_length_le (by omega), List.take_of_length_le (by omega)]; exact he
    · rename_i len e hd
      obtain ⟨⟨cx, rfl, hx⟩, cy, rfl, hy⟩ := hf _ hd
      split at h
      · rename_i k1 inf hk1 hinf
        split at h
        · rename_i hsz
          injection h with h; subst h
          have hu : ∃ d, P.underlying e = some d := by
            cases e' : P.underlying e with
            | some d => exact ⟨d, rfl⟩
            | none => cases n <;> simp [flatOf, e'] at hk1
          obtain ⟨d, hde⟩ := hu
          have hc : P.cellsOf e = inf.size := by simp [Program.cellsOf, hinf]
          have hl : (List.replicate len k1).flatten.length = len * k1.length := by simp
          rw [hl] at hlx hly
          rw [em, run_equalIn_array w (n + m) cx cy hd hinf, hc, List.range_eq_range']
          refine run_eqItems_flat (run_eq_flat n e k1 hk1) hde hinf hsz (fun e => flat_one hk1 hde e) hx hy m len 0 r (by omega) (by omega) ?_
          simp only [Nat.zero_mul, List.drop_zero]
          rw [List.take_of_length_le (by omega), List.take_of_length_le (by omega)]; exact he
        · cases h
      · cases h
    · cases h

theorem good_eqag (h : Sim base w0 K S w) {op : BinOp} {neg : Bool} (ho : (op = .eql ∧ neg = false) ∨ (op = .neq ∧ neg = true)) {t : TypeId} {ks : List TK} (hk : flatOf P 20 t = some ks) (hg : P.eqGuardType P.depth t = false) {ox oy : Operand} {x y z : AV} {vx vy : Value} (hx : VR K S x vx) (hy : VR K S y vy)
    (hz : eqAgV neg ks x y = some z) (hd : ∃ d, P.underlying t = some d ∧ aggB d = true) : Good base w0 K S w z S ((do let v ← (do eqGuard op t ox oy vx vy; binOp op t vx vy); pure (Next.value v) : Sem Next).run P w) := by
  obtain ⟨d, hd, hag⟩ := hd
  unfold eqAgV at hz
  split at hz
  · rename_i xs ys
    split at hz
    · rename_i hl
      split at hz
      · rename_i r hr
        injection hz with hz; subst hz
        cases hx with
        | ag _ cx hlx hvx =>
          cases hy with
          | ag _ cy hly hvy =>
            have he := run_eq_flat 20 t ks hk K S w 9980 xs ys (.agg cx) (.agg cy) r hl.1 hl.2 (fun d' hd' => by
              rw [hd] at hd'; obtain rfl := Option.some.inj hd'; rw [hag]; exact ⟨⟨cx, rfl, hlx, hvx⟩, cy, rfl, hly, hvy⟩) hr
            rcases ho with ⟨rfl, rfl⟩ | ⟨rfl, rfl⟩
            · refine Good.same h (v := .bool r) ?_ (.b r)
              simp only [Sem.run_bind, run_eqGuard_agg w .eql t ox oy cx cy hg, Result.andThen_ok, run_eql_struct, he, Sem.run_pure]
            · refine Good.same h (v := .bool (!r)) ?_ (.b (!r))
              simp only [Sem.run_bind, run_eqGuard_agg w .neq t ox oy cx cy hg, Result.andThen_ok, run_neq_struct, he, Sem.run_pure]
      · cases hz
    · cases hz
  · cases hz
end
end Go.Proofs.YtmocapahlcaapaaGreatDoor

namespace Go.Proofs.YtmocapahlcaapaaGreatDoor
set_option linter.unusedSimpArgs false
set_option linter.unusedVariables false
open Go.RowKit

section
variable {P : Program} {base : Bs} {w0 : World} {K : Ctx} {S : Mem} {w : World}

/-- Operands in a row. -/
def ArgsR (K : Ctx) (S : Mem) (xs : List AV) (vs : List Value) : Prop := xs.length = vs.length ∧ ∀ k (h : k < xs.length) (h' : k < vs.length), VR K S xs[k] vs[k]

theorem compXs_ok {n : Nat} {e : Env} {a : Act} (hr : ER K S n e a) {l : List Operand} {xs : List X} (h : compXs l = some xs) : ArgsR K S (xs.map (·.ev e)) (l.map a.eval) := by
  obtain ⟨h1, h2⟩ := mapM_ok h
  refine ⟨by simp [h1], fun k hk hk' => ?_⟩
  simp only [List.length_map] at hk hk'
  simp only [List.getElem_map]
  exact compX_ok (h2 k hk' hk) hr

theorem compXo_ok {n : Nat} {e : Env} {a : Act} (hr : ER K S n e a) {o : Option Operand} {x : Option X} (h : compXo o = some x) : OptR K S (x.map (·.ev e)) (o.map a.eval) := by
  cases o with
  | none => simp only [compXo, Option.some.injEq] at h; subst h; trivial
  | some y =>
    simp only [compXo, Option.map_eq_some_iff] at h
    obtain ⟨z, hz, rfl⟩ := h
    exact compX_ok hz hr

/-- The parts' values. -/
def evPs (a : Act) (ps : List (Nat × Operand)) : List (Nat × Value) := ps.map fun p => (p.1, a.eval p.2)

theorem compParts_ok {n : Nat} {e : Env} {a : Act} (hr : ER K S n e a) {pl : Nat → Option (Nat × Nat)} {ps : List (Nat × Operand)} {r : List (Nat × Nat × X)} (h : compParts pl ps = some r) :
    (evParts e r).length = ps.length ∧ ∀ k (h : k < (evParts e r).length) (h' : k < (evPs a ps).length),
      pl ((evPs a ps)[k]).1 = some (((evParts e r)[k]).1, ((evParts e r)[k]).2.1) ∧ VR K S ((evParts e r)[k]).2.2 ((evPs a ps)[k]).2 := by
  obtain ⟨h1, h2⟩ := mapM_ok h
  refine ⟨by simp [evParts, h1], fun k hk hk' => ?_⟩
  simp only [evParts, List.length_map] at hk
  simp only [evPs, List.length_map] at hk'
  have h3 := h2 k hk' hk
  simp only [evParts, evPs, List.getElem_map]
  split at h3
  · rename_i off m x hp hx
    injection h3 with h3
    rw [← h3]
    exact ⟨hp, compX_ok hx hr⟩
  · cases h3

/-! ### The operations that were not told before -/
theorem good_pick (h : Sim base w0 K S w) {c x y : AV} {vc vx vy : Value} {z : AV} {b : Bool} (hc : VR K S c vc) (hx : VR K S x vx) (hy : VR K S y vy) (hb : c = .b b) (hz : z = if b then x else y) :
    Good base w0 K S w z S ((do pure (.value (if ← asBool vc then vx else vy)) : Sem Next).run P w) := by
  subst hb
  cases hc
  subst hz
  cases b
  · exact Good.same (v := vy) h (by simp [asBool]) hy
  · exact Good.same (v := vx) h (by simp [asBool]) hx

theorem ArgsR.getD {xs : List AV} {vs : List Value} (h : ArgsR K S xs vs) (k : Nat) : VR K S (xs.getD k .u) (vs.getD k undef) := by
  by_cases hk : k < xs.length
  · have hk' : k < vs.length := by rw [← h.1]; exact hk
    have := h.2 k hk hk'
    simp only [List.getD_eq_getElem?_getD, List.getElem?_eq_getElem hk, List.getElem?_eq_getElem hk', Option.getD_some]
    exact this
  · have : xs.getD k .u = .u := by simp [List.getD_eq_getElem?_getD, List.getElem?_eq_none (show xs.length ≤ k by omega)]
    rw [this]; exact .u _

theorem toList_getD (a : Array Value) (k : Nat) : a.toList.getD k undef = a.getD k undef := by
  simp only [List.getD_eq_getElem?_getD, Array.getD_eq_getD_getElem?, Array.getElem?_toList]

theorem ArgsR.arr {xs : List AV} {a : Array Value} (h : ArgsR K S xs a.toList) : xs.length = a.size ∧ ∀ k, VR K S (xs.getD k .u) (a.getD k undef) :=
  ⟨by simpa using h.1, fun k => by rw [← toList_getD]; exact h.getD k⟩

theorem good_mkf (h : Sim base w0 K S w) {fn : Fn} {xs ys : List AV} {a b : Array Value} (hx : ArgsR K S xs a.toList) (hy : ArgsR K S ys b.toList) :
    Good base w0 K S w (.f fn xs ys) S ((do let v ← Instr.makeFunc fn a b; pure (Next.value v) : Sem Next).run P w) :=
  Good.same (v := .func fn a b) h (by simp [Instr.makeFunc]) (.f fn xs ys a b hx.arr.1 hy.arr.1 hx.arr.2 hy.arr.2)

theorem run_mm {mx : Bool} : ∀ (l : List AV) (x y : AV) (v : Value) (vs : List Value), VR K S x v → ArgsR K S l vs → mmV mx x l = some y → ∃ r, ((if mx then vs.foldlM Builtin.max2 v else vs.foldlM Builtin.min2 v) : Sem Value).run P w = .ok r w ∧ VR K S y r
  | [], x, y, v, [], hx, _, h => by
    simp only [mmV, Option.some.injEq] at h; subst h
    refine ⟨v, ?_, hx⟩
    cases mx <;> simp
  | b :: l, x, y, v, vb :: vs, hx, hl, h => by
    have hb : VR K S b vb := hl.2 0 (by simp) (by simp)
    have hl' : ArgsR K S l vs := ⟨by have := hl.1; simp at this; exact this, fun k h1 h2 => hl.2 (k + 1) (by simp; omega) (by simp; omega)⟩
    unfold mmV at h
    split at h
    · exact absurd (by assumption : b :: l = []) (by simp)
    · rename_i k p k' q r he
      obtain ⟨rfl, rfl⟩ := List.cons.inj he
      split at h
      · rename_i hk
        subst hk
        cases hx; cases hb
        cases mx with
        | true =>
          obtain ⟨r', hr', hV⟩ := run_mm (mx := true) l _ y (.int k (if q > p then q else p)) vs (.i _ _) hl' h
          refine ⟨r', ?_, hV⟩
          simp only [if_true] at hr' ⊢
          rw [List.foldlM_cons]
          simp only [Builtin.max2, Sem.run_bind, Sem.run_pure, Result.andThen_ok]
          exact hr'
        | false =>
          obtain ⟨r', hr', hV⟩ := run_mm (mx := false) l _ y (.int k (if q < p then q else p)) vs (.i _ _) hl' h
          refine ⟨r', ?_, hV⟩
          simp only [Bool.false_eq_true, if_false] at hr' ⊢
          rw [List.foldlM_cons]
          simp only [Builtin.min2, Sem.run_bind, Sem.run_pure, Result.andThen_ok]
          exact hr'
      · cases h
    · cases h
  | [], _, _, _, _ :: _, _, h, _ => by have := h.1; simp at this
  | _ :: _, _, _, _, [], _, h, _ => by have := h.1; simp at this

theorem bytesV_ok : ∀ (xs : List AV) (l : List UInt8) (g : Nat → Value) (n : Nat), xs.length = n → (∀ j, j < n → VR K S (xs.getD j .u) (g j)) → bytesV xs = some l →
    ∃ ns : List Int, (List.range n).map g = ns.map (Value.int .u8) ∧ ns.map (fun n => UInt8.ofNat n.toNat) = l
  | [], l, g, n, hn, _, h => by
    simp only [bytesV, Option.some.injEq] at h; subst h
    simp only [List.length_nil] at hn; subst hn
    exact ⟨[], by simp, rfl⟩
  | x :: r, l, g, n, hn, hv, h => by
    unfold bytesV at h
    split at h
    · exact absurd (by assumption : x :: r = []) (by simp)
    · rename_i m r' he
      obtain ⟨rfl, rfl⟩ := List.cons.inj he
      split at h
      · rename_i l' hl'
        injection h with h; subst h
        simp only [List.length_cons] at hn
        subst hn
        obtain ⟨ns, h1, h2⟩ := bytesV_ok r l' (fun j => g (j + 1)) r.length rfl (fun j hj => by
          have := hv (j + 1) (by omega)
          simpa using this) hl'
        have h0 := hv 0 (by omega)
        simp only [List.getD_cons_zero] at h0
        generalize hg0 : g 0 = v0 at h0
        cases h0
        refine ⟨m :: ns, ?_, by simp [h2]⟩
        rw [List.range_succ_eq_map]
        simp only [List.map_cons, List.map_map, hg0]
        rw [← h1]
        rfl
      · cases h
    · cases h

theorem foldl_push_map (ns : List Int) (s : ByteArray) : ns.foldl (fun r n => r.push (UInt8.ofNat n.toNat)) s = ⟨s.data ++ (ns.map fun n => UInt8.ofNat n.toNat).toArray⟩ := by
  induction ns generalizing s with
  | nil => simp
  | cons n ns ih =>
    rw [List.foldl_cons, ih]
    apply ByteArray.ext
    simp [ByteArray.push]

theorem good_toStr (h : Sim base w0 K S w) {src dst e : TypeId} (hs : P.underlying src = some (.slice e)) (he : P.underlying e = some (.int .u8)) (hd : P.underlying dst = some .string) {x y : AV} {v : Value} (hx : VR K S x v) (hy : toStrV S x = some y) :
    Good base w0 K S w y S ((do let v ← convert src dst v; pure (Next.value v) : Sem Next).run P w) := by
  unfold toStrV at hy
  split at hy
  · injection hy with hy; subst hy
    cases hx
    refine Good.same (v := .string .empty) h ?_ (.s [])
    simp only [Sem.run_bind, run_convert_bytes_string w src dst e none 0 0 hs he hd]
    simp [Conv.bytesToString]
  · injection hy with hy; subst hy
    cases hx with
    | se a c =>
      refine Good.same (v := .string .empty) h ?_ (.s [])
      simp only [Sem.run_bind, run_convert_bytes_string w src dst e (some a) 0 c hs he hd]
      have := run_bytesToString (P := P) w a 0 c [] (by simp [loadCells, loadCellsFrom])
      simp only [this]
      simp
  · rename_i i o ver len cap ex
    split at hy
    · rename_i cs hcs
      split at hy
      · rename_i l hl
        injection hy with hy; subst hy
        obtain ⟨hlen, g, hg, hV⟩ := rowAt_ok h hcs
        obtain ⟨B, hB, hver⟩ := rowAt_ver hcs
        cases hx with
        | sl _ _ _ _ _ _ a c B' hB' hle hl' hc hex ha =>
          rw [hB] at hB'; obtain rfl := Option.some.inj hB'
          obtain ⟨rfl, _⟩ := ha hver
          obtain ⟨ns, h1, h2⟩ := bytesV_ok cs l g len hlen hV hl
          have hld := run_loadCells (P := P) w ⟨K.μ i, o, none⟩ len g hg
          rw [h1] at hld
          refine Good.same (v := .string ⟨l.toArray⟩) h ?_ (.s l)
          simp only [Sem.run_bind, run_convert_bytes_string w src dst e _ _ _ hs he hd, run_bytesToString w _ _ _ ns hld, foldl_push_map, h2]
          simp
      · cases hy
    · cases hy
  · cases hy

theorem good_toBytes (h : Sim base w0 K S w) {src dst e : TypeId} (hs : P.underlying src = some .string) (hd : P.underlying dst = some (.slice e)) (he : P.underlying e = some (.int .u8)) {l : List UInt8} {v : Value} (hx : VR K S (.s l) v) :
    Good base w0 K S w (if l.length = 0 then .se else .sl S.length 0 0 l.length l.length false) (S ++ [.cells (l.map fun b => .i .u8 b.toNat) 0 (some 1) true]) ((do let v ← convert src dst v; pure (Next.value v) : Sem Next).run P w) := by
  cases hx
  obtain ⟨hd1, hd2⟩ := h.drew
  have hrun := run_bytes_of_string w src dst e ⟨l.toArray⟩ hs hd he
  generalize hcap : grownCap w (ByteArray.mk l.toArray).size 0 e = cap at hrun
  have hge : l.length ≤ cap := by
    have : (ByteArray.mk l.toArray).size ≤ grownCap w (ByteArray.mk l.toArray).size 0 e := by simp [grownCap, Question.cut]
    rw [size_mk] at this; rw [← hcap, size_mk]; exact this
  have hsz : (bytesRow ⟨l.toArray⟩ cap).size = cap := by simp [bytesRow, size_mk]; omega
  obtain ⟨K', g1, g2, g3, g4⟩ := good_row2 hd1 (l.map fun b => .i .u8 b.toNat) (bytesRow ⟨l.toArray⟩ cap) e (some 1) ((bytesRow ⟨l.toArray⟩ cap).size, (bytesRow ⟨l.toArray⟩ cap).size + 1)
    (by rw [hsz]; simpa using hge) (fun e => by cases e) (fun k hk => by
      simp only [List.length_map] at hk
      have e1 : (l.map fun b => AV.i .u8 b.toNat).getD k .u = .i .u8 (l[k].toNat : Int) := by simp [List.getD_eq_getElem?_getD, hk]
      have e2 : (bytesRow ⟨l.toArray⟩ cap).getD k undef = .int .u8 (l[k].toNat : Int) := by
        simp only [bytesRow, Array.getD_eq_getD_getElem?]
        rw [Array.getElem?_append_left (by simpa using hk)]
        simp [hk]
      rw [e1, e2]; exact .i _ _) (fun o ho => by simp only [endOf, if_true] at ho; simp; omega)
  refine ⟨K', _, .slice (some ⟨w.heap.size, 0, none⟩) l.length cap, .inl ?_, ?_, g1, hd2.trans g2⟩
  · simp only [Sem.run_bind, hrun, Result.andThen_ok, Sem.run_pure]
    rw [size_mk]
  · split
    · rename_i h0; rw [h0]; exact .se _ _
    · refine .sl _ _ _ _ _ _ _ _ _ (new_at S _) (Nat.le_refl _) (Nat.le_refl _) hge (fun e => by cases e) fun _ => ⟨by rw [g3]; rfl, fun _ => ⟨1, rfl, ?_⟩⟩
      rw [g4, hsz]; omega

theorem good_clear (h : Sim base w0 K S w) {t ty e : TypeId} (ht : P.underlying t = some (.slice e)) {z : List AV} (hz : zeroOf P e = some z) {x r : AV} {v : Value} {S' : Mem} (hx : VR K S x v) (hc : clearV S z x = some (r, S')) :
    Good base w0 K S w r S' ((do let v ← Builtin.clear_ #[t] ty #[v]; pure (Next.value v) : Sem Next).run P w) := by
  obtain ⟨inf, zv, hi, hz2, hz3⟩ := zeroOf_row hz
  have tu : VR K S (.tu []) (.tuple #[]) := .tu [] #[] rfl fun k => by simp; exact .u _
  unfold clearV at hc
  split at hc
  · injection hc with hc; injection hc with h1 h2; subst h1; subst h2
    cases hx
    exact Good.same (v := .tuple #[]) h (by simp [Builtin.clear_, run_underlying' ht]) tu
  · injection hc with hc; injection hc with h1 h2; subst h1; subst h2
    cases hx
    exact Good.same (v := .tuple #[]) h (by simp [Builtin.clear_, run_underlying' ht]) tu
  · rename_i i o ver len cap ex
    split at hc
    · rename_i h0
      injection hc with hc; injection hc with h1 h2; subst h1; subst h2; subst h0
      cases hx
      exact Good.same (v := .tuple #[]) h (by simp [Builtin.clear_, run_underlying' ht]) tu
    · rename_i h0
      split at hc
      · rename_i cs ver' op hB
        split at hc
        · rename_i hcond
          obtain ⟨rfl, hle, hone⟩ := hcond
          injection hc with hc; injection hc with h1 h2; subst h1; subst h2
          cases hx with
          | sl _ _ _ _ _ _ a c B' hB' hle' hl' hcc hex ha =>
            rw [hB] at hB'; obtain rfl := Option.some.inj hB'
            obtain ⟨rfl, _⟩ := ha rfl
            have hzR : RowR K S (zerosV z len) (Builtin.zeroCells zv.cells len) := by
              have hq := zerosV_row (hz3 K S) len
              rw [show z.length = zv.cells.size from (hz3 K S).1] at hq
              exact hq
            have hzl : (zerosV z len).length = len * z.length := by simp [zerosV]
            obtain ⟨w', hrun, hS', hst⟩ := Sim.storeCells (P := P) (zerosV z len) (Builtin.zeroCells zv.cells len).toList S w i ver' cs op o 0 h hB (by omega) (by simpa using hzR.1)
              (fun k hk => by rw [toList_getD]; exact hzR.2 k) hone
            simp only [Nat.add_zero] at hS' hst
            rw [setList_eq _ _ _ (by omega)] at hS' hst
            refine ⟨K, w', .tuple #[], .inl ?_, .tu [] #[] rfl fun k => by simp; exact .u _, hS', hst⟩
            obtain ⟨m, rfl⟩ : ∃ m, len = m + 1 := ⟨len - 1, by omega⟩
            simp [Builtin.clear_, run_underlying' ht, run_zeroValue' hi hz2, hrun]
        · cases hc
      · cases hc
  · cases hc

theorem good_cap (h : Sim base w0 K S w) {t ty e : TypeId} (ht : P.underlying t = some (.slice e)) {x : AV} {v : Value} {n : Nat} (hx : VR K S x v) (hn : capV x = some n) :
    Good base w0 K S w (.i .i64 n) S ((do let v ← Builtin.cap_ #[t] ty #[v]; pure (Next.value v) : Sem Next).run P w) := by
  unfold capV at hn
  split at hn
  · injection hn with hn; subst hn
    cases hx
    exact Good.same (v := .int .i64 (0 : Nat)) h (by simp [Builtin.cap_, run_underlying' ht, goInt]) (.i _ _)
  · rename_i i o ver len cap
    injection hn with hn; subst hn
    cases hx with
    | sl _ _ _ _ _ _ a c B' hB' hle' hl' hcc hex ha =>
      obtain rfl := hex rfl
      exact Good.same (v := .int .i64 (c : Nat)) h (by simp [Builtin.cap_, run_underlying' ht, goInt]) (.i _ _)
  · cases hn
end
end Go.Proofs.YtmocapahlcaapaaGreatDoor

namespace Go.Proofs.YtmocapahlcaapaaGreatDoor
set_option linter.unusedSimpArgs false
set_option linter.unusedVariables false
open Go.RowKit

section
variable {P : Program} {base : Bs} {w0 : World} {K : Ctx} {S : Mem} {w : World}

/-- A block that is rewritten where it lies. -/
theorem Sim.putObj {K : Ctx} {S : Mem} {w : World} (h : Sim base w0 K S w) {i : Nat} {B B' : Blk} {o : Obj} (hB : S[i]? = some B) (hv : B'.ver = B.ver) (hop : B'.opn = B.opn) (hrw : B.rw = true)
    (hbr : ∀ S' w', Ext K S K S' → w'.heap[K.μ i]? = some o → BRel base K S' w' i B') : Sim base w0 K (S.set i B') (w.putObj (K.μ i) o) ∧ Stp K S w K (S.set i B') (w.putObj (K.μ i) o) := by
  have hil : i < S.length := (List.getElem?_eq_some_iff.1 hB).1
  have hE : Ext K S K (S.set i B') := Ext.set K S i B B' hB hv hop
  have hlt := (h.blk i B hB).lt
  have hs : Stp K S w K (S.set i B') (w.putObj (K.μ i) o) := by
    refine ⟨hE, rfl, rfl, rfl, by simp, fun b hb hn => World.putObj_heap_other fun e => hn i B hB hrw e.symm, fun j C hC => ?_⟩
    by_cases e : j = i
    · subst e; exact .inl ⟨B, hB, fun _ => hrw, rfl⟩
    · rw [List.getElem?_set_ne (Ne.symm e)] at hC
      exact .inl ⟨C, hC, id, rfl⟩
  refine ⟨⟨fun j C hC => ?_, fun x y hx hy e => ?_, h.step_below hs, Nat.le_trans h.hb hs.size, h.door⟩, hs⟩
  · by_cases e : j = i
    · subst e
      simp only [List.getElem?_set_self hil, Option.some.injEq] at hC
      subst hC
      exact hbr _ _ hE (World.putObj_heap_same hlt)
    · rw [List.getElem?_set_ne (Ne.symm e)] at hC
      have hjl : j < S.length := (List.getElem?_eq_some_iff.1 hC).1
      exact (h.blk j C hC).mono hE rfl rfl (World.putObj_heap_other fun e' => e (h.inj j i hjl hil e'))
  · simp only [List.length_set] at hx hy
    exact h.inj x y hx hy e

theorem VR.m_at {K : Ctx} {S : Mem} {i r : Nat} {B : Blk} (h : VR K S (.m i) (.map (some r))) (hB : S[i]? = some B) (hv : B.ver = 0) : r = K.μ i := by
  cases h with
  | m _ _ B' hB' hr =>
    rw [hB] at hB'; obtain rfl := Option.some.inj hB'
    exact hr hv

/-! ### Keys -/
theorem keyC_ok {ag : Bool} {ks : List TK} {x : AV} {v : Value} {xs : List AV} (hx : VR K S x v) (h : keyC ag ks x = some xs) : xs.length = ks.length ∧ Fits K S ag xs v := by
  cases ag with
  | true =>
    cases x with
    | ag ys =>
      simp only [keyC] at h
      split at h
      · rename_i hl
        injection h with h; subst h
        cases hx with
        | ag _ c hl' hv => exact ⟨hl, by simp only [Fits, if_true]; exact ⟨c, rfl, hl', hv⟩⟩
      · cases h
    | _ => simp [keyC] at h
  | false =>
    have one : ∀ {y : AV}, (if ks.length = 1 then some [y] else none) = some xs → VR K S y v → xs.length = ks.length ∧ Fits K S false xs v := by
      intro y h hy
      split at h
      · rename_i h1
        injection h with h; subst h
        exact ⟨by simp [h1], by simp only [Fits, Bool.false_eq_true, if_false]; exact ⟨y, rfl, hy⟩⟩
      · cases h
    cases x <;> simp only [keyC] at h <;> first | (cases h; done) | exact one h hx

/-- Two cells of one kind that are surely alike. -/
theorem eqCell_true {k : TK} {x y : AV} {vx vy : Value} (hx : VR K S x vx) (hy : VR K S y vy) (h : eqCell k x y = some true) : vx = vy ∧ ∀ n, Instr.sameBits n vx vx = true := by
  unfold eqCell at h
  split at h
  · cases hx; cases hy
    split at h
    · rename_i e; subst e
      simp only [Option.some.injEq, beq_iff_eq] at h
      subst h
      exact ⟨rfl, fun n => by simp [Instr.sameBits]⟩
    · cases h
  · cases hx; cases hy
    simp only [Option.some.injEq, beq_iff_eq] at h
    subst h
    exact ⟨rfl, fun n => by simp [Instr.sameBits]⟩
  · cases hx; cases hy
    simp only [Option.some.injEq, beq_iff_eq] at h
    subst h
    exact ⟨rfl, fun n => by simp [Instr.sameBits, beq_toListBytes]⟩
  · cases h

theorem eqCells_true : ∀ (ks : List TK) (xs ys : List AV), xs.length = ks.length → ys.length = ks.length → eqCells ks xs ys = some true → ∀ k (hk : k < ks.length) (h1 : k < xs.length) (h2 : k < ys.length), eqCell ks[k] xs[k] ys[k] = some true
  | [], _, _, _, _, _, k, hk, _, _ => by simp at hk
  | t :: ks, x :: xs, y :: ys, hx, hy, h, k, hk, h1, h2 => by
    simp only [eqCells] at h
    split at h
    · rename_i a b ha hb
      simp only [Option.some.injEq, Bool.and_eq_true] at h
      obtain ⟨rfl, rfl⟩ := h
      cases k with
      | zero => exact ha
      | succ k => exact eqCells_true ks xs ys (by simpa using hx) (by simpa using hy) hb k (by simpa using hk) (by simpa using h1) (by simpa using h2)
    · cases h
  | _ :: _, [], _, hx, _, _, _, _, _, _ => by simp at hx
  | _ :: _, _ :: _, [], _, hy, _, _, _, _, _ => by simp at hy

theorem key_same {ag : Bool} {ks : List TK} {xs ys : List AV} {vx vy : Value} (hx : xs.length = ks.length) (hy : ys.length = ks.length) (fx : Fits K S ag xs vx) (fy : Fits K S ag ys vy) (h : eqCells ks xs ys = some true) : vx = vy ∧ Instr.sameBits 10000 vx vx = true := by
  have hk := eqCells_true ks xs ys hx hy h
  cases ag with
  | false =>
    simp only [Fits, Bool.false_eq_true, if_false] at fx fy
    obtain ⟨x, rfl, hVx⟩ := fx
    obtain ⟨y, rfl, hVy⟩ := fy
    have := hk 0 (by simp at hx; omega) (by simp) (by simp)
    obtain ⟨e, hs⟩ := eqCell_true hVx hVy this
    exact ⟨e, hs _⟩
  | true =>
    simp only [Fits, if_true] at fx fy
    obtain ⟨c, rfl, hlx, hVx⟩ := fx
    obtain ⟨d, rfl, hly, hVy⟩ := fy
    have each : ∀ k (h1 : k < c.size) (h2 : k < d.size), c[k] = d[k] ∧ ∀ n, Instr.sameBits n c[k] c[k] = true := by
      intro k h1 h2
      have a1 := hVx k
      have a2 := hVy k
      have e1 : xs.getD k .u = xs[k]'(by omega) := by simp [List.getD_eq_getElem?_getD, show k < xs.length by omega]
      have e2 : ys.getD k .u = ys[k]'(by omega) := by simp [List.getD_eq_getElem?_getD, show k < ys.length by omega]
      have e3 : c.getD k undef = c[k] := by simp [Array.getD, h1]
      have e4 : d.getD k undef = d[k] := by simp [Array.getD, h2]
      rw [e1, e3] at a1
      rw [e2, e4] at a2
      exact eqCell_true a1 a2 (hk k (by omega) (by omega) (by omega))
    have hcd : c = d := by
      apply Array.ext
      · omega
      · intro k h1 h2; exact (each k h1 h2).1
    subst hcd
    refine ⟨rfl, ?_⟩
    show Instr.sameBits (9999 + 1) (.agg c) (.agg c) = true
    simp only [Instr.sameBits, beq_self_eq_true, Bool.true_and, List.all_eq_true]
    intro p hp
    obtain ⟨k, hk1, hk2⟩ := List.mem_iff_getElem.1 hp
    have hk3 : k < c.size := by simp at hk1; omega
    simp only [List.getElem_zip] at hk2
    rw [← hk2]
    exact (each k hk3 hk3).2 _
end
end Go.Proofs.YtmocapahlcaapaaGreatDoor

namespace Go.Proofs.YtmocapahlcaapaaGreatDoor
set_option linter.unusedSimpArgs false
set_option linter.unusedVariables false
open Go.RowKit

section
variable {P : Program} {base : Bs} {w0 : World} {K : Ctx} {S : Mem} {w : World}

theorem check_flat (em : Bool) : ∀ (n : Nat) (t : TypeId) (ks : List TK), flatOf P n t = some ks → ∀ (K : Ctx) (S : Mem) (w : World) (m : Nat) (xs : List AV) (v : Value), xs.length = ks.length → (∀ d, P.underlying t = some d → Fits K S (aggB d) xs v) → (Instr.checkKey em (n + m) t v).run P w = .ok () w
  | 0, t, ks, h => by simp [flatOf] at h
  | n + 1, t, ks, h => by
    intro K S w m xs v hl hf
    have em1 : n + 1 + m = (n + m) + 1 := by omega
    have h' := h
    unfold flatOf at h
    split at h
    · rename_i k hd
      rw [em1]
      simp [Instr.checkKey, run_underlying' hd]
    · rename_i hd
      rw [em1]
      simp [Instr.checkKey, run_underlying' hd]
    · rename_i hd
      rw [em1]
      simp [Instr.checkKey, run_underlying' hd]
    · rename_i fs hd
      obtain ⟨c, rfl, hx⟩ := hf _ hd
      split at h
      · cases h
      · rw [em1, Instr.checkKey]
        simp only [Sem.run_bind, run_underlying' hd, Result.andThen_ok]
        rw [← Array.forIn_toList]
        have IH := fun t ks h => check_flat em n t ks h
        have hlen : 0 + ks.length ≤ xs.length := by omega
        clear hl h' hf
        generalize fs.toList = L at h
        generalize 0 = off at h hlen
        induction L generalizing off ks with
        | nil => simp
        | cons f L ih =>
          simp only [flatFs] at h
          split at h
          · cases h
          · rename_i hn
            simp only [not_or, Decidable.not_not] at hn
            obtain ⟨hn, ho⟩ := hn
            split at h
            · rename_i k1 inf hk1 hinf
              split at h
              · rename_i hsz
                split at h
                · rename_i k2 hk2
                  injection h with h; subst h
                  simp only [List.length_append] at hlen
                  have hu : ∃ d, P.underlying f.type = some d := by
                    cases e : P.underlying f.type with
                    | some d => exact ⟨d, rfl⟩
                    | none => cases n <;> simp [flatOf, e] at hk1
                  obtain ⟨d, hd'⟩ := hu
                  obtain ⟨a, p1, hfx⟩ := run_part_flat (w := w) hd' hinf hsz (fun e => flat_one hk1 hd' e) hx (off := off) (by omega)
                  have p2 := IH f.type k1 hk1 K S w m ((xs.drop off).take k1.length) a (by simp; omega) (fun d' hd'' => by
                    rw [hd'] at hd''; obtain rfl := Option.some.inj hd''; exact hfx)
                  subst ho
                  simp only [List.forIn_cons, Sem.run_bind, hn, ne_eq, not_false_eq_true, if_true, Result.andThen_ok, p1, p2, Sem.run_pure]
                  exact ih k2 _ hk2 (by omega)
                · cases h
              · cases h
            · cases h
    · rename_i len e hd
      obtain ⟨c, rfl, hx⟩ := hf _ hd
      split at h
      · rename_i k1 inf hk1 hinf
        split at h
        · rename_i hsz
          injection h with h; subst h
          have hu : ∃ d, P.underlying e = some d := by
            cases e' : P.underlying e with
            | some d => exact ⟨d, rfl⟩
            | none => cases n <;> simp [flatOf, e'] at hk1
          obtain ⟨d, hde⟩ := hu
          have hll : (List.replicate len k1).flatten.length = len * k1.length := by simp
          rw [hll] at hl
          rw [em1, Instr.checkKey]
          simp only [Sem.run_bind, run_underlying' hd, Result.andThen_ok]
          simp only [Std.Legacy.Range.forIn_eq_forIn_range', Std.Legacy.Range.size, Nat.sub_zero, Nat.add_one_sub_one, Nat.div_one]
          have hlen : (0 + len) * k1.length ≤ xs.length := by rw [Nat.zero_add]; omega
          clear hl hll h' hf hd
          generalize 0 = i0 at hlen ⊢
          induction len generalizing i0 with
          | zero => simp
          | succ len ih =>
            have e2 : (i0 + (len + 1)) * k1.length = i0 * k1.length + k1.length + len * k1.length := by
              rw [Nat.add_mul, Nat.add_mul, Nat.one_mul]; omega
            obtain ⟨a, p1, hfx⟩ := run_part_flat (w := w) hde hinf hsz (fun e => flat_one hk1 hde e) hx (off := i0 * inf.size) (by rw [hsz]; omega)
            have p2 := check_flat em n e k1 hk1 K S w m ((xs.drop (i0 * inf.size)).take k1.length) a (by simp; rw [hsz]; omega) (fun d' hd'' => by
              rw [hde] at hd''; obtain rfl := Option.some.inj hd''; exact hfx)
            rw [List.range'_succ]
            simp only [List.forIn_cons, Sem.run_bind, run_sizeOf' hinf, Result.andThen_ok, p1, p2, Sem.run_pure]
            exact ih (i0 + 1) (by rw [show i0 + 1 + len = i0 + (len + 1) by omega]; exact hlen)
        · cases h
      · cases h
    · cases h

theorem eqCell_cases {k : TK} {x y : AV} {r : Bool} (h : eqCell k x y = some r) : (k = .int ∧ ∃ a m n, x = .i a m ∧ y = .i a n ∧ r = (m == n)) ∨ (k = .bool ∧ ∃ m n, x = .b m ∧ y = .b n ∧ r = (m == n)) ∨ (k = .str ∧ ∃ m n, x = .s m ∧ y = .s n ∧ r = (m == n)) := by
  unfold eqCell at h
  split at h
  · split at h
    · rename_i e; subst e
      exact .inl ⟨rfl, _, _, _, rfl, rfl, (Option.some.inj h).symm⟩
    · cases h
  · exact .inr (.inl ⟨rfl, _, _, rfl, rfl, (Option.some.inj h).symm⟩)
  · exact .inr (.inr ⟨rfl, _, _, rfl, rfl, (Option.some.inj h).symm⟩)
  · cases h

/-- What was found. -/
def Found (ag : Bool) (ks : List TK) (xs : List AV) (es : List (AV × AV × Nat)) (E : List MapEntry) (i : Nat) (r : Option Nat) (o : Option (Nat × Value)) : Prop :=
  (r = none ∧ o = none) ∨ ∃ j e a ys, r = some (i + j) ∧ o = some (i + j, e.val) ∧ E[j]? = some e ∧ es[j]? = some a ∧ keyC ag ks a.1 = some ys ∧ eqCells ks xs ys = some true

theorem Found.cons {ag : Bool} {ks : List TK} {xs : List AV} {es : List (AV × AV × Nat)} {E : List MapEntry} {i : Nat} {r : Option Nat} {o : Option (Nat × Value)} {a : AV × AV × Nat} {e : MapEntry} (h : Found ag ks xs es E (i + 1) r o) : Found ag ks xs (a :: es) (e :: E) i r o := by
  rcases h with h | ⟨j, e', a', ys, h1, h2, h3, h4, h5, h6⟩
  · exact .inl h
  · exact .inr ⟨j + 1, e', a', ys, by rw [h1]; congr 1; omega, by rw [h2]; congr 2; omega, by simpa using h3, by simpa using h4, h5, h6⟩

theorem asking_ok {kt : TypeId} {d : TypeDesc} {ks : List TK} (hk : flatOf P 20 kt = some ks) (hd : P.underlying kt = some d) {xs : List AV} {vk : Value} (hl : xs.length = ks.length) (hf : Fits K S (aggB d) xs vk) :
    ∀ (es : List (AV × AV × Nat)) (E : List MapEntry) (i : Nat) (r : Option Nat), es.length = E.length → (∀ j (h : j < es.length) (h' : j < E.length), VR K S (es[j]).1 (E[j]).key) → findK (aggB d) ks xs es i = some r →
    ∃ o, (Instr.findAsking kt vk E i).run P w = .ok o w ∧ Found (aggB d) ks xs es E i r o
  | [], [], i, r, _, _, h => by
    simp only [findK, Option.some.injEq] at h; subst h
    exact ⟨none, by simp [Instr.findAsking], .inl ⟨rfl, rfl⟩⟩
  | a :: es, e :: E, i, r, hle, hV, h => by
    have h0 : VR K S a.1 e.key := hV 0 (by simp) (by simp)
    simp only [findK] at h
    split at h
    · rename_i ys hys
      obtain ⟨hyl, hfy⟩ := keyC_ok h0 hys
      have he : ∀ b, eqCells ks xs ys = some b → (Op.equal kt vk e.key).run P w = .ok b w := fun b hb =>
        run_eq_flat 20 kt ks hk K S w 9980 xs ys vk e.key b hl hyl (fun d' hd' => by rw [hd] at hd'; obtain rfl := Option.some.inj hd'; exact ⟨hf, hfy⟩) hb
      split at h
      · rename_i hb
        injection h with h; subst h
        refine ⟨some (i, e.val), ?_, .inr ⟨0, e, a, ys, rfl, rfl, rfl, rfl, hys, hb⟩⟩
        rw [Instr.findAsking]
        simp only [Sem.run_bind, he true hb, Result.andThen_ok, if_true, Sem.run_pure]
      · rename_i hb
        obtain ⟨o, ho, hF⟩ := asking_ok hk hd hl hf es E (i + 1) r (by simpa using hle) (fun j h1 h2 => hV (j + 1) (by simp; omega) (by simp; omega)) h
        refine ⟨o, ?_, hF.cons⟩
        rw [Instr.findAsking]
        simp only [Sem.run_bind, he false hb, Result.andThen_ok, Bool.false_eq_true, if_false]
        exact ho
      · cases h
    · cases h
  | [], _ :: _, _, _, h, _, _ => by simp at h
  | _ :: _, [], _, _, h, _, _ => by simp at h

theorem now_ok {d : TypeDesc} {ks : List TK} (hks : (d = .bool ∧ ks = [.bool]) ∨ ((∃ i, d = .int i) ∧ ks = [.int]) ∨ (d = .string ∧ ks = [.str])) {xs : List AV} {vk : Value} (hf : Fits K S false xs vk) :
    ∀ (es : List (AV × AV × Nat)) (E : List MapEntry) (i : Nat) (r : Option Nat), es.length = E.length → (∀ j (h : j < es.length) (h' : j < E.length), VR K S (es[j]).1 (E[j]).key) → findK false ks xs es i = some r →
    ∃ o, Instr.findNow d vk E i = some o ∧ Found false ks xs es E i r o
  | [], [], i, r, _, _, h => by
    simp only [findK, Option.some.injEq] at h; subst h
    exact ⟨none, rfl, .inl ⟨rfl, rfl⟩⟩
  | a :: es, en :: E, i, r, hle, hV, h => by
    have h0 : VR K S a.1 en.key := hV 0 (by simp) (by simp)
    simp only [findK] at h
    split at h
    · rename_i ys hys
      obtain ⟨hyl, hfy⟩ := keyC_ok h0 hys
      have hsame : ∀ b, eqCells ks xs ys = some b → Instr.sameNow d vk en.key = some b := by
        intro b hb
        simp only [Fits, Bool.false_eq_true, if_false] at hf hfy
        obtain ⟨x, rfl, hx⟩ := hf
        obtain ⟨y, rfl, hy⟩ := hfy
        have key : ∀ k, ks = [k] → eqCell k x y = some b := by
          intro k e
          subst e
          simp only [eqCells] at hb
          split at hb
          · rename_i a b' ha hb'
            injection hb' with hb'; subst hb'
            rw [ha, ← hb]; simp
          · cases hb
        rcases hks with ⟨rfl, e⟩ | ⟨⟨q, rfl⟩, e⟩ | ⟨rfl, e⟩
        · rcases eqCell_cases (key _ e) with ⟨e1, _⟩ | ⟨_, m, n, rfl, rfl, rfl⟩ | ⟨e1, _⟩
          · cases e1
          · generalize en.key = v at hy
            cases hx; cases hy; rfl
          · cases e1
        · rcases eqCell_cases (key _ e) with ⟨_, a, m, n, rfl, rfl, rfl⟩ | ⟨e1, _⟩ | ⟨e1, _⟩
          · generalize en.key = v at hy
            cases hx; cases hy; simp [Instr.sameNow]
          · cases e1
          · cases e1
        · rcases eqCell_cases (key _ e) with ⟨e1, _⟩ | ⟨e1, _⟩ | ⟨_, m, n, rfl, rfl, rfl⟩
          · cases e1
          · cases e1
          · generalize en.key = v at hy
            cases hx; cases hy
            simp [Instr.sameNow, beq_toListBytes]
      split at h
      · rename_i hb
        injection h with h; subst h
        exact ⟨some (i, en.val), by simp [Instr.findNow, hsame true hb], .inr ⟨0, en, a, ys, rfl, rfl, rfl, rfl, hys, hb⟩⟩
      · rename_i hb
        obtain ⟨o, ho, hF⟩ := now_ok hks hf es E (i + 1) r (by simpa using hle) (fun j h1 h2 => hV (j + 1) (by simp; omega) (by simp; omega)) h
        exact ⟨o, by simp [Instr.findNow, hsame false hb, ho], hF.cons⟩
      · cases h
    · cases h
  | [], _ :: _, _, _, h, _, _ => by simp at h
  | _ :: _, [], _, _, h, _, _ => by simp at h
end
end Go.Proofs.YtmocapahlcaapaaGreatDoor

namespace Go.Proofs.YtmocapahlcaapaaGreatDoor
set_option linter.unusedSimpArgs false
set_option linter.unusedVariables false
open Go.RowKit

section
variable {P : Program} {base : Bs} {w0 : World} {K : Ctx} {S : Mem} {w : World}

/-- The entries of a map. -/
def EntR (K : Ctx) (S : Mem) (es : List (AV × AV × Nat)) (E : Array MapEntry) : Prop :=
  es.length = E.size ∧ ∀ k (h : k < es.length) (h' : k < E.size), VR K S (es[k]).1 (E[k]).key ∧ VR K S (es[k]).2.1 (E[k]).val ∧ (es[k]).2.2 = (E[k]).born

theorem keyInfo_ok {kt : TypeId} {ag : Bool} {ks : List TK} (h : keyInfo P kt = some (ag, ks)) : ∃ d, P.underlying kt = some d ∧ flatOf P 20 kt = some ks ∧ ag = aggB d := by
  unfold keyInfo at h
  split at h
  · rename_i d ks' hd hk
    simp only [Option.some.injEq, Prod.mk.injEq] at h
    obtain ⟨rfl, rfl⟩ := h
    exact ⟨d, hd, hk, rfl⟩
  · cases h

theorem find_ok {kt : TypeId} {ag : Bool} {ks : List TK} (h : keyInfo P kt = some (ag, ks)) {k : AV} {vk : Value} {xs : List AV} (hk : VR K S k vk) (hx : keyC ag ks k = some xs) {es : List (AV × AV × Nat)} {E : Array MapEntry} (hE : EntR K S es E) {r : Option Nat}
    (hr : findK ag ks xs es 0 = some r) : (∀ em, (Instr.checkKey em 10000 kt vk).run P w = .ok () w) ∧ ∃ o, (Instr.findKey kt vk E.toList).run P w = .ok o w ∧ Found ag ks xs es E.toList 0 r o := by
  obtain ⟨d, hd, hfl, rfl⟩ := keyInfo_ok h
  obtain ⟨hl, hf⟩ := keyC_ok hk hx
  have hfit : ∀ d', P.underlying kt = some d' → Fits K S (aggB d') xs vk := fun d' hd' => by rw [hd] at hd'; obtain rfl := Option.some.inj hd'; exact hf
  refine ⟨fun em => check_flat em 20 kt ks hfl K S w 9980 xs vk hl hfit, ?_⟩
  have hlen : es.length = E.toList.length := by simpa using hE.1
  have hV : ∀ j (h : j < es.length) (h' : j < E.toList.length), VR K S (es[j]).1 (E.toList[j]).key := fun j h1 h2 => by
    have := (hE.2 j h1 (by simpa using h2)).1
    simpa using this
  have now : (∃ o, Instr.findNow d vk E.toList 0 = some o ∧ Found (aggB d) ks xs es E.toList 0 r o) → ∃ o, (Instr.findKey kt vk E.toList).run P w = .ok o w ∧ Found (aggB d) ks xs es E.toList 0 r o := by
    rintro ⟨o, h1, h2⟩
    exact ⟨o, by simp [Instr.findKey, run_underlying' hd, h1], h2⟩
  have agg : aggB d = true → (∀ a b, Instr.sameNow d a b = none) → ∃ o, (Instr.findKey kt vk E.toList).run P w = .ok o w ∧ Found (aggB d) ks xs es E.toList 0 r o := by
    intro ha hs
    cases hE' : E.toList with
    | nil =>
      rw [hE'] at hlen
      have : es = [] := List.length_eq_zero_iff.1 hlen
      subst this
      simp only [findK, Option.some.injEq] at hr
      subst hr
      exact ⟨none, by simp [Instr.findKey, run_underlying' hd, Instr.findNow], .inl ⟨rfl, rfl⟩⟩
    | cons e l =>
      rw [hE'] at hlen hV
      obtain ⟨o, ho, hF⟩ := asking_ok (w := w) hfl hd hl hf es (e :: l) 0 r hlen hV hr
      exact ⟨o, by simp [Instr.findKey, run_underlying' hd, Instr.findNow, hs, ho], hF⟩
  have hfl' := hfl
  unfold flatOf at hfl'
  rw [hd] at hfl'
  cases d <;> simp only at hfl' <;> first | (cases hfl'; done) | skip
  · exact now (now_ok (.inl ⟨rfl, (Option.some.inj hfl').symm⟩) hf es E.toList 0 r hlen hV hr)
  · exact now (now_ok (.inr (.inl ⟨⟨_, rfl⟩, (Option.some.inj hfl').symm⟩)) hf es E.toList 0 r hlen hV hr)
  · exact now (now_ok (.inr (.inr ⟨rfl, (Option.some.inj hfl').symm⟩)) hf es E.toList 0 r hlen hV hr)
  · exact agg rfl fun a b => rfl
  · exact agg rfl fun a b => rfl

theorem zeroAV_ok {t : TypeId} {z : AV} (h : zeroAV P t = some z) : ∃ v, (∀ w : World, (zeroValue t).run P w = .ok v w) ∧ ∀ K S, VR K S z v := by
  unfold zeroAV at h
  split at h
  · rename_i i hi
    split at h
    · rename_i c hc
      obtain ⟨l, hl, rfl⟩ := Option.map_eq_some_iff.1 h
      refine ⟨.agg c, fun w => run_zeroValue' hi hc, fun K S => ?_⟩
      obtain ⟨h1, h2⟩ := mapM_ok hl
      refine .ag _ _ (by simpa using h1) fun k => ?_
      by_cases hk : k < l.length
      · have hk' : k < c.toList.length := by omega
        have := aconst_ok (K := K) (S := S) (h2 k hk' hk)
        have e1 : l.getD k .u = l[k] := by simp [List.getD_eq_getElem?_getD, hk]
        have e2 : c.getD k undef = c.toList[k] := by
          have : k < c.size := by simpa using hk'
          simp [Array.getD, this]
        rw [e1, e2]; exact this
      · have : l.getD k .u = .u := by simp [List.getD_eq_getElem?_getD, List.getElem?_eq_none (show l.length ≤ k by omega)]
        rw [this]; exact .u _
    · rename_i v hne hv
      exact ⟨v, fun w => run_zeroValue' hi hv, fun K S => aconst_ok h⟩
    · cases h
  · cases h

theorem good_mkmap (h : Sim base w0 K S w) {t kt el : TypeId} (ht : P.underlying t = some (.map kt el)) {r : Option Value} (hr : ∀ v, r = some v → ∃ k n, v = .int k n) :
    Good base w0 K S w (.m S.length) (S ++ [.map [] 0]) ((do let v ← Instr.makeMap t r; pure (Next.value v) : Sem Next).run P w) := by
  obtain ⟨s1, t1⟩ := h.alloc (.map [] 0) (.map #[] 0) 0 fun K' S' w' hE e1 e2 e3 hb => ⟨#[], by rw [e1]; exact e3, rfl, by rw [e1]; exact hb, fun k hk => by simp at hk⟩
  refine ⟨_, _, .map (some w.heap.size), .inl ?_, .m _ _ _ (new_at S _) fun _ => (K.put_same _ _ _).1.symm, s1, t1⟩
  cases r with
  | none => simp [Instr.makeMap]
  | some v =>
    obtain ⟨k, n, rfl⟩ := hr v rfl
    simp [Instr.makeMap, run_underlying' ht, asInt, asIntOf]
end
end Go.Proofs.YtmocapahlcaapaaGreatDoor

namespace Go.Proofs.YtmocapahlcaapaaGreatDoor
set_option linter.unusedSimpArgs false
set_option linter.unusedVariables false
open Go.RowKit

section
variable {P : Program} {base : Bs} {w0 : World} {K : Ctx} {S : Mem} {w : World}

theorem EntR.mono {K K' : Ctx} {S S' : Mem} {es : List (AV × AV × Nat)} {E : Array MapEntry} (hE : Ext K S K' S') (h : EntR K S es E) : EntR K' S' es E :=
  ⟨h.1, fun k a b => ⟨(h.2 k a b).1.mono hE, (h.2 k a b).2.1.mono hE, (h.2 k a b).2.2⟩⟩

theorem EntR.set {es : List (AV × AV × Nat)} {E : Array MapEntry} (h : EntR K S es E) {j : Nat} {a : AV × AV × Nat} {e e' : MapEntry} {f : MapEntry → MapEntry} (he : E[j]? = some e) (hf : f e = e') (h1 : VR K S a.1 e'.key) (h2 : VR K S a.2.1 e'.val) (h3 : a.2.2 = e'.born) :
    EntR K S (es.set j a) (E.modify j f) := by
  obtain ⟨hj, hej⟩ := Array.getElem?_eq_some_iff.1 he
  refine ⟨by simp [h.1], fun k hk hk' => ?_⟩
  simp only [List.length_set] at hk
  simp only [Array.size_modify] at hk'
  by_cases e1 : k = j
  · subst e1
    have q1 : (es.set k a)[k]'(by simpa using hk) = a := by simp
    have q2 : (E.modify k f)[k]'(by simpa using hk') = e' := by rw [Array.getElem_modify]; simp [hej, hf]
    rw [q1, q2]; exact ⟨h1, h2, h3⟩
  · have q1 : (es.set j a)[k]'(by simpa using hk) = es[k] := by rw [List.getElem_set_ne (Ne.symm e1)]
    have q2 : (E.modify j f)[k]'(by simpa using hk') = E[k] := by rw [Array.getElem_modify]; simp [Ne.symm e1]
    rw [q1, q2]; exact h.2 k hk hk'

theorem EntR.push {es : List (AV × AV × Nat)} {E : Array MapEntry} (h : EntR K S es E) {a : AV × AV × Nat} {e : MapEntry} (h1 : VR K S a.1 e.key) (h2 : VR K S a.2.1 e.val) (h3 : a.2.2 = e.born) : EntR K S (es ++ [a]) (E.push e) := by
  refine ⟨by simp [h.1], fun k hk hk' => ?_⟩
  have hl := h.1
  simp only [List.length_append, List.length_singleton] at hk
  by_cases e1 : k < es.length
  · have q2 : (E.push e)[k] = E[k]'(by omega) := Array.getElem_push_lt (by omega)
    rw [List.getElem_append_left e1, q2]; exact h.2 k e1 (by omega)
  · obtain rfl : k = es.length := by omega
    have q1 : (es ++ [a])[es.length]'(by simp) = a := by simp
    have q2 : (E.push e)[es.length]'(by simp; omega) = e := by simp [hl]
    rw [q1, q2]; exact ⟨h1, h2, h3⟩

theorem EntR.erase {es : List (AV × AV × Nat)} {E : Array MapEntry} (h : EntR K S es E) (j : Nat) : EntR K S (es.eraseIdx j) (E.eraseIdxIfInBounds j) := by
  have hl := h.1
  by_cases hj : j < E.size
  · have hE : E.eraseIdxIfInBounds j = (E.toList.eraseIdx j).toArray := by
      rw [Array.eraseIdxIfInBounds, dif_pos hj]
      apply Array.ext'
      simp
    rw [hE]
    refine ⟨by simp [List.length_eraseIdx, hl], fun k hk hk' => ?_⟩
    simp only [List.getElem_toArray, List.getElem_eraseIdx]
    have hk1 : k < es.length - 1 := by simp [List.length_eraseIdx, hl, hj] at hk; omega
    by_cases e : k < j
    · simp only [e, dif_pos]
      simpa using h.2 k (by omega) (by omega)
    · simp only [e, dif_neg, not_false_eq_true]
      simpa using h.2 (k + 1) (by omega) (by omega)
  · have h1 : es.eraseIdx j = es := List.eraseIdx_of_length_le (by omega)
    have h2 : E.eraseIdxIfInBounds j = E := by simp [Array.eraseIdxIfInBounds, hj]
    rw [h1, h2]; exact h

/-- The map that a value names. -/
theorem map_at (h : Sim base w0 K S w) {i : Nat} {es : List (AV × AV × Nat)} {cl : Nat} (hB : S[i]? = some (.map es cl)) : ∃ E, w.heap[K.μ i]? = some (.map E cl) ∧ EntR K S es E := by
  obtain ⟨E, h1, h2, _, h3⟩ := h.blk i _ hB
  exact ⟨E, h1, h2, h3⟩

theorem run_getMap {r : Nat} {E : Array MapEntry} {cl : Nat} (h : w.heap[r]? = some (.map E cl)) : (getObj r).run P w = .ok (.map E cl) w := by simp [getObj, Sem.run, h]
theorem run_setMap {r : Nat} {E : Array MapEntry} {cl : Nat} (o : Obj) (h : w.heap[r]? = some (.map E cl)) : (setObj r o).run P w = .ok () (w.putObj r o) := by simp [setObj, Sem.run, h, World.putObj]

theorem put_map (h : Sim base w0 K S w) {i : Nat} {es es' : List (AV × AV × Nat)} {cl cl' : Nat} {E' : Array MapEntry} (hB : S[i]? = some (.map es cl)) (hE : EntR K S es' E') :
    Sim base w0 K (S.set i (.map es' cl')) (w.putObj (K.μ i) (.map E' cl')) ∧ Stp K S w K (S.set i (.map es' cl')) (w.putObj (K.μ i) (.map E' cl')) := by
  have hge := (h.blk i _ hB).ge rfl
  exact h.putObj hB rfl rfl rfl fun S' w' hx he => ⟨E', he, (hE.mono hx).1, hge, (hE.mono hx).2⟩

theorem good_mlook (h : Sim base w0 K S w) {t kt el : TypeId} {ag : Bool} {ks : List TK} {z : AV} {ok : Bool} (ht : P.underlying t = some (.map kt el)) (hq : keyInfo P kt = some (ag, ks)) (hz : zeroAV P el = some z) {x k y : AV} {vx vk : Value} (hx : VR K S x vx) (hk : VR K S k vk)
    (hv : mlookV S ag ks z ok x k = some y) : Good base w0 K S w y S ((do let v ← Instr.lookup t vx vk ok; pure (Next.value v) : Sem Next).run P w) := by
  obtain ⟨zv, hzr, hzV⟩ := zeroAV_ok hz
  unfold mlookV at hv
  split at hv
  · rename_i xs es hxs hes
    split at hv
    · rename_i r hr
      injection hv with hv
      unfold mapOf at hes
      split at hes
      · injection hes with hes; subst hes
        cases hx
        obtain ⟨hchk, o, ho, hF⟩ := find_ok (w := w) (E := #[]) hq hk hxs ⟨rfl, fun k hk => by simp at hk⟩ hr
        rcases hF with ⟨rfl, rfl⟩ | ⟨j, e, a, ys, _, _, h3, _⟩
        · subst hv
          cases ok
          · exact Good.same (v := zv) h (by simp [Instr.lookup, run_underlying' ht, hchk, ho, hzr]) (hzV K S)
          · refine Good.same (v := .tuple #[zv, .bool false]) h (by simp [Instr.lookup, run_underlying' ht, hchk, ho, hzr]) (.tu _ _ rfl fun k => ?_)
            match k with
            | 0 => exact hzV K S
            | 1 => exact .b false
            | k + 2 => simp; exact .u _
        · simp at h3
      · rename_i i
        split at hes
        · rename_i es' cl hB
          injection hes with hes; subst hes
          obtain ⟨E, hh, hE⟩ := map_at h hB
          generalize hvx : vx = u at hx
          cases hx with
          | m _ r B hB' hr' =>
            rw [hB] at hB'; obtain rfl := Option.some.inj hB'
            obtain rfl := hr' rfl
            obtain ⟨hchk, o, ho, hF⟩ := find_ok (w := w) hq hk hxs hE hr
            rcases hF with ⟨rfl, rfl⟩ | ⟨j, e, a, ys, rfl, rfl, h3, h4, _, _⟩
            · subst hv
              cases ok
              · exact Good.same (v := zv) h (by simp [Instr.lookup, run_underlying' ht, run_getMap hh, hchk, ho, hzr]) (hzV K S)
              · refine Good.same (v := .tuple #[zv, .bool false]) h (by simp [Instr.lookup, run_underlying' ht, run_getMap hh, hchk, ho, hzr]) (.tu _ _ rfl fun k => ?_)
                match k with
                | 0 => exact hzV K S
                | 1 => exact .b false
                | k + 2 => simp; exact .u _
            · subst hv
              obtain ⟨hj, hej⟩ := List.getElem?_eq_some_iff.1 h3
              obtain ⟨hj', haj⟩ := List.getElem?_eq_some_iff.1 h4
              have hva : VR K S (valAt es' z (some (0 + j))) e.val := by
                have := (hE.2 j hj' (by simpa using hj)).2.1
                simp only [valAt, Nat.zero_add, h4]
                rw [haj] at this
                rw [← hej]; simpa using this
              cases ok
              · exact Good.same (v := e.val) h (by simp [Instr.lookup, run_underlying' ht, run_getMap hh, hchk, ho]) hva
              · refine Good.same (v := .tuple #[e.val, .bool true]) h (by simp [Instr.lookup, run_underlying' ht, run_getMap hh, hchk, ho]) (.tu _ _ rfl fun k => ?_)
                match k with
                | 0 => exact hva
                | 1 => exact .b true
                | k + 2 => simp; exact .u _
        · cases hes
      · cases hes
    · cases hv
  · cases hv
end
end Go.Proofs.YtmocapahlcaapaaGreatDoor

namespace Go.Proofs.YtmocapahlcaapaaGreatDoor
set_option linter.unusedSimpArgs false
set_option linter.unusedVariables false
open Go.RowKit

section
variable {P : Program} {base : Bs} {w0 : World} {K : Ctx} {S : Mem} {w : World}

/-- The block and the key that are found. -/
theorem found_key {kt : TypeId} {ag : Bool} {ks : List TK} {k : AV} {vk : Value} {xs : List AV} (hk : VR K S k vk) (hx : keyC ag ks k = some xs) {es : List (AV × AV × Nat)} {E : Array MapEntry} (hE : EntR K S es E) {j : Nat} {e : MapEntry} {a : AV × AV × Nat} {ys : List AV}
    (h3 : E.toList[j]? = some e) (h4 : es[j]? = some a) (h5 : keyC ag ks a.1 = some ys) (h6 : eqCells ks xs ys = some true) : E[j]? = some e ∧ VR K S a.2.1 e.val ∧ a.2.2 = e.born ∧ (Instr.keyThatStays e.key vk).run P w = .ok vk w := by
  obtain ⟨hj, hej⟩ := List.getElem?_eq_some_iff.1 h3
  obtain ⟨hj', haj⟩ := List.getElem?_eq_some_iff.1 h4
  have hj2 : j < E.size := by simpa using hj
  have he : E[j] = e := by simpa using hej
  have hr := hE.2 j hj' hj2
  rw [haj, he] at hr
  obtain ⟨l1, f1⟩ := keyC_ok hk hx
  obtain ⟨l2, f2⟩ := keyC_ok hr.1 h5
  obtain ⟨e1, e2⟩ := key_same l1 l2 f1 f2 h6
  refine ⟨by simp [hj2, he], hr.2.1, hr.2.2, ?_⟩
  rw [← e1]
  simp [Instr.keyThatStays, e2]

theorem good_mentry (h : Sim base w0 K S w) {t kt el : TypeId} {ag : Bool} {ks : List TK} {z : AV} (ht : P.underlying t = some (.map kt el)) (hq : keyInfo P kt = some (ag, ks)) (hz : zeroAV P el = some z) {x k y : AV} {vx vk : Value} {S' : Mem} (hx : VR K S x vx) (hk : VR K S k vk)
    (hv : mentryV S ag ks z x k = some (y, S')) : Good base w0 K S w y S' ((do let v ← Instr.mapEntry t vx vk; pure (Next.value v) : Sem Next).run P w) := by
  obtain ⟨zv, hzr, hzV⟩ := zeroAV_ok hz
  have tu : ∀ {K : Ctx} {S : Mem} {a : AV} {v : Value} {n : Nat}, VR K S a v → VR K S (.tu [a, .i .i64 n]) (.tuple #[v, goInt n]) := by
    intro K S a v n hV
    refine .tu _ _ rfl fun k => ?_
    match k with
    | 0 => exact hV
    | 1 => exact .i .i64 n
    | k + 2 => simp; exact .u _
  unfold mentryV at hv
  split at hv
  · rename_i xs i hxs
    split at hv
    · rename_i es cl hB
      obtain ⟨E, hh, hE⟩ := map_at h hB
      generalize hvx : vx = u at hx
      cases hx with
      | m _ r B hB' hr' =>
        rw [hB] at hB'; obtain rfl := Option.some.inj hB'
        obtain rfl := hr' rfl
        split at hv
        · rename_i j hf
          split at hv
          · rename_i a ha
            simp only [Option.some.injEq, Prod.mk.injEq] at hv
            obtain ⟨rfl, rfl⟩ := hv
            obtain ⟨hchk, o, ho, hF⟩ := find_ok (w := w) hq hk hxs hE hf
            rcases hF with ⟨h1, _⟩ | ⟨j', e, a', ys, h1, rfl, h3, h4, h5, h6⟩
            · cases h1
            · simp only [Nat.zero_add, Option.some.injEq] at h1
              subst h1
              rw [ha] at h4; obtain rfl := Option.some.inj h4
              obtain ⟨q1, q2, q3, q4⟩ := found_key (P := P) (w := w) (kt := kt) hk hxs hE h3 ha h5 h6
              have hE' := hE.set (a := (k, a.2.1, a.2.2)) (e' := { e with key := vk }) (f := fun e => { e with key := vk }) q1 rfl hk q2 q3
              obtain ⟨s1, t1⟩ := put_map (cl' := cl) h hB hE'
              refine ⟨K, _, .tuple #[e.val, goInt e.born], .inl ?_, by rw [q3]; exact (tu (n := e.born) q2).mono (by rw [← q3]; exact t1.ext), s1, t1⟩
              simp [Instr.mapEntry, run_underlying' ht, run_getMap hh, hchk, ho, q1, q4, run_setMap _ hh]
          · cases hv
        · rename_i hf
          simp only [Option.some.injEq, Prod.mk.injEq] at hv
          obtain ⟨rfl, rfl⟩ := hv
          obtain ⟨hchk, o, ho, hF⟩ := find_ok (w := w) hq hk hxs hE hf
          rcases hF with ⟨_, rfl⟩ | ⟨j', e, a', ys, h1, _⟩
          · have hE' := hE.push (a := (k, z, cl)) (e := { key := vk, val := zv, born := cl }) hk (hzV K S) rfl
            obtain ⟨s1, t1⟩ := put_map (cl' := cl + 1) h hB hE'
            refine ⟨K, _, .tuple #[zv, goInt cl], .inl ?_, tu (hzV _ _), s1, t1⟩
            simp [Instr.mapEntry, run_underlying' ht, run_getMap hh, hchk, ho, hzr, run_setMap _ hh]
          · cases h1
        · cases hv
    · cases hv
  · cases hv

theorem good_mupd (h : Sim base w0 K S w) {t kt el : TypeId} {ag : Bool} {ks : List TK} (ht : P.underlying t = some (.map kt el)) (hq : keyInfo P kt = some (ag, ks)) {x k v : AV} {vx vk vv : Value} {S' : Mem} (hx : VR K S x vx) (hk : VR K S k vk) (hv' : VR K S v vv)
    (hv : mupdV S ag ks x k v = some S') : Good base w0 K S w .u S' ((do Instr.mapUpdate t vx vk vv; pure Next.skip : Sem Next).run P w) := by
  unfold mupdV at hv
  split at hv
  · rename_i xs i hxs
    split at hv
    · rename_i es cl hB
      obtain ⟨E, hh, hE⟩ := map_at h hB
      generalize hvx : vx = u at hx
      cases hx with
      | m _ r B hB' hr' =>
        rw [hB] at hB'; obtain rfl := Option.some.inj hB'
        obtain rfl := hr' rfl
        split at hv
        · rename_i j hf
          split at hv
          · rename_i a ha
            injection hv with hv
            subst hv
            obtain ⟨hchk, o, ho, hF⟩ := find_ok (w := w) hq hk hxs hE hf
            rcases hF with ⟨h1, _⟩ | ⟨j', e, a', ys, h1, rfl, h3, h4, h5, h6⟩
            · cases h1
            · simp only [Nat.zero_add, Option.some.injEq] at h1
              subst h1
              rw [ha] at h4; obtain rfl := Option.some.inj h4
              obtain ⟨q1, q2, q3, q4⟩ := found_key (P := P) (w := w) (kt := kt) hk hxs hE h3 ha h5 h6
              have hE' := hE.set (a := (k, v, a.2.2)) (e' := { e with key := vk, val := vv }) (f := fun e => { e with key := vk, val := vv }) q1 rfl hk hv' q3
              obtain ⟨s1, t1⟩ := put_map (cl' := cl) h hB hE'
              refine ⟨K, _, undef, .inr ⟨?_, rfl⟩, .u _, s1, t1⟩
              simp [Instr.mapUpdate, run_underlying' ht, run_getMap hh, hchk, ho, q1, q4, run_setMap _ hh]
          · cases hv
        · rename_i hf
          injection hv with hv
          subst hv
          obtain ⟨hchk, o, ho, hF⟩ := find_ok (w := w) hq hk hxs hE hf
          rcases hF with ⟨_, rfl⟩ | ⟨j', e, a', ys, h1, _⟩
          · have hE' := hE.push (a := (k, v, cl)) (e := { key := vk, val := vv, born := cl }) hk hv' rfl
            obtain ⟨s1, t1⟩ := put_map (cl' := cl + 1) h hB hE'
            refine ⟨K, _, undef, .inr ⟨?_, rfl⟩, .u _, s1, t1⟩
            simp [Instr.mapUpdate, run_underlying' ht, run_getMap hh, hchk, ho, run_setMap _ hh]
          · cases h1
        · cases hv
    · cases hv
  · cases hv

theorem born_find {es : List (AV × AV × Nat)} {E : Array MapEntry} (h : EntR K S es E) (born : Int) : E.findIdx? (fun e => (e.born : Int) == born) = es.findIdx? (fun e => ((e.2.2 : Nat) : Int) == born) := by
  have h1 : E.toList.map (fun e => (e.born : Int)) = es.map (fun e => ((e.2.2 : Nat) : Int)) := by
    apply List.ext_getElem
    · simp [h.1]
    · intro k a b
      simp only [List.length_map] at a b
      have := (h.2 k b (by simpa using a)).2.2
      simp only [List.getElem_map, Array.getElem_toList]
      rw [this]
  have h2 : E.toList.findIdx? (fun e => (e.born : Int) == born) = (E.toList.map (fun e => (e.born : Int))).findIdx? (· == born) := by rw [List.findIdx?_map]; rfl
  have h3 : es.findIdx? (fun e => ((e.2.2 : Nat) : Int) == born) = (es.map (fun e => ((e.2.2 : Nat) : Int))).findIdx? (· == born) := by rw [List.findIdx?_map]; rfl
  rw [h3, ← h1, ← h2]
  clear h h1 h2 h3
  obtain ⟨l⟩ := E
  simp

theorem good_mstore (h : Sim base w0 K S w) {t : TypeId} {x st v : AV} {vx vs vv : Value} {S' : Mem} (hx : VR K S x vx) (hs : VR K S st vs) (hv' : VR K S v vv) (hv : mstoreV S x st v = some S') :
    Good base w0 K S w .u S' ((do Instr.entryStore t vx vs vv; pure Next.skip : Sem Next).run P w) := by
  unfold mstoreV at hv
  split at hv
  · rename_i i kd born
    split at hv
    · rename_i es cl hB
      obtain ⟨E, hh, hE⟩ := map_at h hB
      generalize hvx : vx = u at hx
      cases hs
      cases hx with
      | m _ r B hB' hr' =>
        rw [hB] at hB'; obtain rfl := Option.some.inj hB'
        obtain rfl := hr' rfl
        split at hv
        · rename_i j hf
          split at hv
          · rename_i a ha
            injection hv with hv
            subst hv
            have hfE := born_find hE born
            rw [hf] at hfE
            obtain ⟨hj, haj⟩ := List.getElem?_eq_some_iff.1 ha
            have hjE : j < E.size := by rw [← hE.1]; exact hj
            have hr := hE.2 j hj hjE
            rw [haj] at hr
            have hE' := hE.set (a := (a.1, v, a.2.2)) (e := E[j]) (e' := { E[j] with val := vv }) (f := fun e => { e with val := vv }) (Array.getElem?_eq_getElem hjE) rfl hr.1 hv' hr.2.2
            obtain ⟨s1, t1⟩ := put_map (cl' := cl) h hB hE'
            refine ⟨K, _, undef, .inr ⟨?_, rfl⟩, .u _, s1, t1⟩
            simp [Instr.entryStore, run_getMap hh, asInt, asIntOf, hfE, run_setMap _ hh]
          · cases hv
        · cases hv
    · cases hv
  · cases hv

theorem good_mdel (h : Sim base w0 K S w) {t kt el ty : TypeId} {ts : Array TypeId} {ag : Bool} {ks : List TK} (hts : ts[0]? = some t) (ht : P.underlying t = some (.map kt el)) (hq : keyInfo P kt = some (ag, ks)) {x k : AV} {vx vk : Value} {S' : Mem} (hx : VR K S x vx) (hk : VR K S k vk)
    (hv : mdelV S ag ks x k = some S') : Good base w0 K S w (.tu []) S' ((do let v ← Builtin.delete_ ts ty #[vx, vk]; pure (Next.value v) : Sem Next).run P w) := by
  have tu : VR K S (.tu []) (.tuple #[]) := .tu [] #[] rfl fun k => by simp; exact .u _
  unfold mdelV at hv
  split at hv
  · rename_i xs hxs
    injection hv with hv; subst hv
    cases hx
    obtain ⟨hchk, _⟩ := find_ok (w := w) (es := []) (E := #[]) (r := none) hq hk hxs ⟨rfl, fun k hk => by simp at hk⟩ rfl
    exact Good.same (v := .tuple #[]) h (by simp [Builtin.delete_, hts, run_underlying' ht, hchk]) tu
  · rename_i xs i hxs
    split at hv
    · rename_i es cl hB
      obtain ⟨E, hh, hE⟩ := map_at h hB
      generalize hvx : vx = u at hx
      cases hx with
      | m _ r B hB' hr' =>
        rw [hB] at hB'; obtain rfl := Option.some.inj hB'
        obtain rfl := hr' rfl
        split at hv
        · rename_i j hf
          injection hv with hv
          subst hv
          obtain ⟨hchk, o, ho, hF⟩ := find_ok (w := w) hq hk hxs hE hf
          rcases hF with ⟨h1, _⟩ | ⟨j', e, a', ys, h1, rfl, h3, h4, h5, h6⟩
          · cases h1
          · simp only [Nat.zero_add, Option.some.injEq] at h1
            subst h1
            obtain ⟨s1, t1⟩ := put_map (cl' := cl) h hB (hE.erase j)
            refine ⟨K, _, .tuple #[], .inl ?_, tu.mono t1.ext, s1, t1⟩
            simp [Builtin.delete_, hts, run_underlying' ht, run_getMap hh, hchk, ho, run_setMap _ hh]
        · rename_i hf
          injection hv with hv
          subst hv
          obtain ⟨hchk, o, ho, hF⟩ := find_ok (w := w) hq hk hxs hE hf
          rcases hF with ⟨_, rfl⟩ | ⟨j', e, a', ys, h1, _⟩
          · obtain ⟨s1, t1⟩ := put_map (cl' := cl) h hB hE
            have hset : S.set i (.map es cl) = S := by
              obtain ⟨hi, e⟩ := List.getElem?_eq_some_iff.1 hB
              rw [← e]; simp
            rw [hset] at s1 t1
            refine ⟨K, _, .tuple #[], .inl ?_, tu, s1, t1⟩
            simp [Builtin.delete_, hts, run_underlying' ht, run_getMap hh, hchk, ho, run_setMap _ hh]
          · cases h1
        · cases hv
    · cases hv
  · cases hv
end
end Go.Proofs.YtmocapahlcaapaaGreatDoor

