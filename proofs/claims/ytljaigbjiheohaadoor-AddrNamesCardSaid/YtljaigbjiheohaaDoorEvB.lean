/- The evaluator: from the model's code to the evaluator's. Definitions alone. -/
import Derived.Test.YtljaigbjiheohaaDoorEvA
namespace Go.Proofs.YtljaigbjiheohaaDoor
set_option linter.unusedSimpArgs false
set_option linter.unusedVariables false
open Go.RowKit

/-- The scalars of fields in a row. -/
def flatFs (P : Program) (go : TypeId → Option (List TK)) : List Field → Nat → Option (List TK)
  | [], _ => some []
  | f :: fs, off => if f.name = "_" ∨ f.offset ≠ off then none else match go f.type, P.info? f.type with
    | some ks, some i => if i.size = ks.length then match flatFs P go fs (off + ks.length) with
        | some r => some (ks ++ r)
        | none => none
      else none
    | _, _ => none

/-- The scalars of which a type consists, none of them a float, an address, an interface. -/
def flatOf (P : Program) : Nat → TypeId → Option (List TK)
  | 0, _ => none
  | n + 1, t => match P.underlying t with
    | some (.int _) => some [.int]
    | some .bool => some [.bool]
    | some .string => some [.str]
    | some (.struct fs) => if P.stoodInHeld t then none else flatFs P (flatOf P n) fs.toList 0
    | some (.array len e) => match flatOf P n e, P.info? e with
      | some ks, some i => if i.size = ks.length then some (List.replicate len ks).flatten else none
      | _, _ => none
    | _ => none

/-- What is to be known of a map's keys. -/
def keyInfo (P : Program) (kt : TypeId) : Option (Bool × List TK) :=
  match P.underlying kt, flatOf P 20 kt with
  | some d, some ks => some (aggB d, ks)
  | _, _ => none

/-- The zero value of a type. -/
def zeroAV (P : Program) (t : TypeId) : Option AV :=
  match P.info? t with
  | some i => match i.zero with
    | some (.agg c) => (c.toList.mapM aconst).map .ag
    | some v => aconst v
    | none => none
  | none => none

def compXs (l : List Operand) : Option (List X) := l.mapM compX
def compXo : Option Operand → Option (Option X)
  | none => some none
  | some x => (compX x).map some

def compParts (pl : Nat → Option (Nat × Nat)) (ps : List (Nat × Operand)) : Option (List (Nat × Nat × X)) :=
  ps.mapM fun p => match pl p.1, compX p.2 with
    | some (off, n), some x => some (off, n, x)
    | _, _ => none

/-- A function that can be entered by its number. -/
def enterable (P : Program) (f : FuncId) : Bool :=
  match P.funcs[f]? with
  | some fn => !(fn.name == "runtime.NumGoroutine") && fn.body.isSome
  | none => false

def compBuiltin (P : Program) (b : Builtin) (args : List X) (ts : List TypeId) : Option IO' :=
  match b, args, ts with
  | .len, [x], [t] => match P.underlying t with
    | some .string => some (.len .str x)
    | some (.slice _) => some (.len .slice x)
    | some (.map _ _) => some (.len .map x)
    | _ => none
  | .copy, [x, y], [t, _] => match P.underlying t with
    | some (.slice e) => match P.info? e with
      | some i => some (.copy i.size x y)
      | none => none
    | _ => none
  | .append, [x, y], [t, u] => match P.underlying t, P.underlying u with
    | some (.slice e), some d => match P.info? e, zeroOf P e with
      | some i, some z => if z.length = i.size then (if (d matches .int _) then some (.appz z i.bytes x y) else some (.app i.size i.bytes x y)) else none
      | _, _ => none
    | _, _ => none
  | .clear, [x], [t] => match P.underlying t with
    | some (.slice e) => (zeroOf P e).map (.clear · x)
    | _ => none
  | .delete, [x, k], t :: _ => match P.underlying t with
    | some (.map kt _) => (keyInfo P kt).map fun q => .mdel q.1 q.2 x k
    | _ => none
  | .cap, [x], [t] => match P.underlying t with
    | some (.slice _) => some (.cap x)
    | _ => none
  | .max, xs, _ => some (.mm true xs)
  | .min, xs, _ => some (.mm false xs)
  | _, _, _ => none

/-- Of the functions without a body two are known. -/
def compExtern (P : Program) (f : FuncId) (xs : List X) : Option IO' :=
  match P.funcs[f]? with
  | some fn => if fn.body.isNone = true ∧ (Extern.findNext fn).isNone = true then
      match xs with
      | [x, y] => if fn.name = "internal/bytealg.IndexByteString" then some (.ixbyte x y) else
          if fn.origin = "slices.overlaps" ∧ (Extern.allGenericRows.lookup fn.name).isNone = true ∧ (Extern.allTypedRows.lookup fn.name).isNone = true ∧ (Extern.allRows.lookup fn.name).isNone = true ∧ (fn.name == "runtime.NumGoroutine") = false then
            match fn.params.toList, fn.resultTypes.toList with
            | [t1, t2], [t] => if t1 = t2 then match P.underlying t1 with
                | some (.slice e) => match P.info? e with
                  | some _ => some (.ovl x y)
                  | none => none
                | _ => none
              else none
            | _, _ => none
          else none
      | [x] => if fn.name = "internal/bytealg.MakeNoZero" then
          match fn.resultTypes.toList with
          | [t] => match P.underlying t with
            | some (.slice _) => some (.mkno x)
            | _ => none
          | _ => none
        else none
      | _ => none
    else none
  | none => none

def compOp (P : Program) : Op → Option IO'
  | .move x => (compX x).map .mv
  | .assign x => (compX x).map .mv
  | .pick c a b => match compX c, compX a, compX b with
    | some c, some a, some b => some (.pick c a b)
    | _, _, _ => none
  | .alloc t => (zeroOf P t).map .fresh
  | .box _ x => (compX x).map .box
  | .build t ps => match zeroOf P t, placesOf P t with
    | some z, some pl => (compParts pl ps.toList).map (.build z)
    | _, _ => none
  | .buildSlice t len ps => match P.underlying t with
    | some (.slice e) => match zeroOf P e, P.info? e with
      | some z, some i => if z.length = i.size ∧ len * i.size ≤ 16777216 then (compParts (fun k => some (k * i.size, i.size)) ps.toList).map (.bslice z len) else none
      | _, _ => none
    | _ => none
  | .load t x => match shapeOf P t, compX x with
    | some n, some x => some (.load n x)
    | _, _ => none
  | .store t x y => match P.info? t, compX x, compX y with
    | some i, some x, some y => some (.store i.size x y)
    | _, _, _ => none
  | .nilCheck x => (compX x).map .nilck
  | .binOp op t x y _ => match compX x, compX y with
    | some x', some y' => match kindOf P t with
      | some tk => some (.bin tk (isConst x || isConst y) op x' y')
      | none => match flatOf P 20 t with
        | some ks => if P.eqGuardType P.depth t = false then match op with
            | .eql => some (.eqag false ks x' y')
            | .neq => some (.eqag true ks x' y')
            | _ => none
          else none
        | none => none
    | _, _ => none
  | .unOp op _ x => (compX x).map (.un op)
  | .convert src dst x => match P.underlying src, P.underlying dst, compX x with
    | some _, some (.int k), some x => some (.toInt k x)
    | some .string, some .string, some x => some (.same x)
    | some .string, some (.slice e), some x => match P.underlying e with
      | some (.int .u8) => some (.toBytes x)
      | _ => none
    | some (.slice e), some .string, some x => match P.underlying e with
      | some (.int .u8) => some (.toStr x)
      | _ => none
    | _, _, _ => none
  | .makeFunc fn a b => match compXs a.toList, compXs b.toList with
    | some a, some b => some (.mkf fn a b)
    | _, _ => none
  | .makeSlice t l c => match P.underlying t with
    | some (.slice e) => match zeroOf P e, P.info? e, compX l, compX c with
      | some z, some i, some l, some c => if z.length = i.size then some (.mks z i.bytes l c) else none
      | _, _, _, _ => none
    | _ => none
  | .slice t x lo hi mx => match P.underlying t, compX x, compXo lo, compXo hi, compXo mx with
    | some (.slice e), some x, some lo, some hi, some mx => match P.info? e with
      | some i => some (.slice i.size x lo hi mx)
      | none => none
    | some (.array n e), some x, some lo, some hi, some mx => match P.info? e with
      | some i => some (.sla n i.size x lo hi mx)
      | none => none
    | some .string, some x, some lo, some hi, some none => some (.sls x lo hi)
    | _, _, _, _, _ => none
  | .fieldAddr t x k => match fieldOf P t k, compX x with
    | some (f, _), some x => some (.faddr f.offset x)
    | _, _ => none
  | .field t x k => match fieldOf P t k, compX x with
    | some (f, _), some x => match shapeOf P f.type with
      | some n => some (.fld f.offset n x)
      | none => none
    | _, _ => none
  | .indexAddr t x ix => match idxOf P t, compX x, compX ix with
    | some (arr, _, i), some x, some ix => some (.iaddr arr i.size x ix)
    | _, _, _ => none
  | .index t x ix => match P.underlying t, compX x, compX ix with
    | some .string, some x, some ix => some (.ixs x ix)
    | some (.array _ _), some x, some ix => match idxOf P t with
      | some (some len, e, i) => match shapeOf P e with
        | some m => some (.ixa len i.size m x ix)
        | none => none
      | _ => none
    | _, _, _ => none
  | .extract x k => (compX x).map (.ext · k)
  | .makeMap t r => match P.underlying t with
    | some (.map _ _) => (compXo r).map .mkmap
    | _ => none
  | .lookup t x k ok => match P.underlying t with
    | some (.map kt el) => match keyInfo P kt, zeroAV P el, compX x, compX k with
      | some q, some z, some x, some k => some (.mlook q.1 q.2 z ok x k)
      | _, _, _, _ => none
    | _ => none
  | .mapEntry t x k => match P.underlying t with
    | some (.map kt el) => match keyInfo P kt, zeroAV P el, compX x, compX k with
      | some q, some z, some x, some k => some (.mentry q.1 q.2 z x k)
      | _, _, _, _ => none
    | _ => none
  | .entryStore _ x s v => match compX x, compX s, compX v with
    | some x, some s, some v => some (.mstore x s v)
    | _, _, _ => none
  | .mapUpdate t x k v => match P.underlying t with
    | some (.map kt _) => match keyInfo P kt, compX x, compX k, compX v with
      | some q, some x, some k, some v => some (.mupd q.1 q.2 x k v)
      | _, _, _, _ => none
    | _ => none
  | .insert t x k v => match P.underlying t with
    | some (.map kt _) => match keyInfo P kt, compX x, compX k, compX v with
      | some q, some x, some k, some v => some (.mupd q.1 q.2 x k v)
      | _, _, _, _ => none
    | _ => none
  | .call c => match c.callee, compXs c.args.toList with
    | .builtin b, some xs => compBuiltin P b xs c.argTypes.toList
    | .value (.func f), some xs => compExtern P f xs
    | _, _ => none
  | _ => none

def compCall (P : Program) : Op → Option IOp
  | .call c => match c.callee, compXs c.args.toList with
    | .value (.func f), some xs => if enterable P f then some (.call f xs) else none
    | .value x, some xs => (compX x).map (.callv · xs)
    | _, _ => none
  | _ => none

def compIO (P : Program) (o : Op) : IOp :=
  match compCall P o with
  | some io => io
  | none => match compOp P o with
    | some io => .op io
    | none => .op .bad

def compOper (P : Program) (ops : Array Oper) (o : Oper) : Option ROp :=
  match o.guard with
  | none => some ⟨o.dst, none, compIO P o.op⟩
  | some (j, b) => match (ops[j]?).bind (·.dst) with
    | some t => some ⟨o.dst, some (t, b), compIO P o.op⟩
    | none => none

/-- It turns no memory. -/
def IO'.still : IO' → Bool
  | .mv _ | .pick .. | .build .. | .load .. | .nilck _ | .bin .. | .un .. | .toInt .. | .faddr .. | .fld .. | .iaddr .. | .ixa .. | .ixs .. | .slice .. | .sla .. | .sls .. | .ext .. | .mkf .. | .len .. | .mm .. | .eqag .. | .same _ | .toStr _ | .cap _ | .mlook .. | .ixbyte .. | .ovl .. => true
  | _ => false
/-- It lays one new row. -/
def IO'.laying : IO' → Bool
  | .fresh _ | .bslice .. => true
  | _ => false

def IOp.still : IOp → Bool
  | .op io => io.still
  | _ => false
def IOp.laying : IOp → Bool
  | .op io => io.laying
  | _ => false

/-! ### Regions whose order is drawn -/
inductive Cls where
  | n (lo hi : Nat)
  | a (c : Nat)
  | m (j : Nat)

/-- The binding edges of an operation. -/
def directs (o : Oper) : List Nat := (o.after.toList.filter (Region.binds .any)).map (·.on)

structure Plan where
  anc : List (List Nat)
  ms : List Nat
  cls : List Cls
  late : List Nat

def Plan.isAnc (p : Plan) (i j : Nat) : Bool := (p.anc.getD i []).contains j

/-- All that comes ahead of each. -/
def ancOf (ops : List Oper) : List (List Nat) :=
  (ops.foldl (init := ([] : List (List Nat))) fun acc o => ((directs o).foldl (init := ([] : List Nat)) fun s d => (d :: (acc.reverse.getD d [])).foldl (fun s x => if s.contains x then s else x :: s) s) :: acc).reverse

def planOf (ops : List Oper) (rs : List ROp) : Plan :=
  let anc := ancOf ops
  let n := rs.length
  let isA (i j : Nat) : Bool := (anc.getD i []).contains j
  let io (i : Nat) : IOp := match rs[i]? with | some r => r.io | none => .op .bad
  let loud := (List.range n).filter fun i => !(io i).still
  let loose := loud.filter fun i => (io i).laying && loud.any fun j => !(i == j) && !(isA i j) && !(isA j i)
  let ms := loud.filter fun i => !(loose.contains i)
  let k := ms.length
  let lo (i : Nat) : Nat := (ms.filter fun m => isA i m).length
  let hi (i : Nat) : Nat := (List.range k).findIdx fun j => isA (ms.getD j 0) i
  ⟨anc, ms, (List.range n).map fun i => if loose.contains i then .a (hi i) else if (io i).still then .n (lo i) (hi i) else .m (ms.findIdx (· == i)),
    (List.range n).filter fun i => match rs[i]? with | some ⟨some t, _, _⟩ => (List.range n).any fun j => isA i j && ((match rs[j]? with | some r => r.use | none => []).contains t) | _ => false⟩

def disjoint (a b : List Nat) : Bool := a.all fun x => !(b.contains x)

/-- The plan is right: see the proof of 'draw_ok'. -/
def planOk (ops : List Oper) (rs : List ROp) (N : Nat) (p : Plan) : Bool :=
  let n := rs.length
  let k := p.ms.length
  let cls (i : Nat) : Cls := p.cls.getD i (.m n)
  let r (i : Nat) : ROp := rs.getD i ⟨none, none, .op .bad⟩
  let ns := List.range n
  (ns.all fun i => (directs (ops.getD i default)).all (· < i)) &&
  (ns.all fun i => (p.anc.getD i []).all fun j => (directs (ops.getD i default)).any fun d => d == j || p.isAnc d j) &&
  ((List.range k).all fun j => decide (p.ms.getD j 0 < n) && (match cls (p.ms.getD j 0) with | .m j' => j' == j | _ => false) && (List.range j).all fun j' => p.isAnc (p.ms.getD j 0) (p.ms.getD j' 0)) &&
  (ns.all fun i => (match cls i with
    | .n lo hi => decide (lo ≤ hi) && decide (hi ≤ k) && (lo == 0 || p.isAnc i (p.ms.getD (lo - 1) 0)) && (hi == k || p.isAnc (p.ms.getD hi 0) i) && (r i).io.still
    | .a c => decide (c ≤ k) && (c == k || p.isAnc (p.ms.getD c 0) i) && (r i).io.laying && (r i).guard.isNone && (r i).dst.isSome && ns.all fun i' => (match cls i' with | .a c' => i' == i || !(c' == c) | _ => true)
    | .m j => p.ms[j]? == some i)) &&
  (p.late.all fun i => decide (i < n) && ns.all fun j => !(p.isAnc j i)) &&
  (ns.all fun i => (r i).use.all fun t => decide (t < N) && ns.all fun j => !((dstL (r j)).contains t) || (p.late.contains j && p.isAnc j i) || (!(p.late.contains j) && p.isAnc i j && (match cls j, cls i with | .a c, .m jm => decide (c ≤ jm) | .a _, _ => false | _, _ => true))) &&
  (ns.all fun i => (dstL (r i)).all fun t => decide (t < N) && ns.all fun j => j == i || !((dstL (r j)).contains t))

def lateSlots (rs : List ROp) (p : Plan) : List Nat := p.late.flatMap fun i => match rs[i]? with | some r => dstL r | none => []

def nsAt (rs : List ROp) (p : Plan) (s : Nat) : List (ROp × Nat) :=
  (List.range rs.length).filterMap fun i => match p.cls.getD i (.m rs.length), rs[i]? with
    | .n lo hi, some r => if lo == s then some (r, hi) else none
    | _, _ => none
def aAt (rs : List ROp) (p : Plan) (s : Nat) : Option ROp :=
  (List.range rs.length).findSome? fun i => match p.cls.getD i (.m rs.length), rs[i]? with
    | .a c, some r => if c == s then some r else none
    | _, _ => none
def mAt (rs : List ROp) (p : Plan) (s : Nat) : Option ROp :=
  match p.ms[s]? with
  | some i => rs[i]?
  | none => none

def stagesOf (rs : List ROp) (p : Plan) : List Stage := (List.range (p.ms.length + 1)).map fun s => ⟨nsAt rs p s, aAt rs p s, mAt rs p s⟩

/-! ### Which slots a loop's head wants -/
def union (a b : List Nat) : List Nat := a ++ b.filter fun x => !a.contains x

def liveOps : List ROp → List Nat → List Nat
  | [], out => out
  | o :: r, out =>
    let l := liveOps r out
    union (match o.dst with | some d => l.filter (fun x => !(x == d)) | none => l) o.use

def Stage.uses (s : Stage) : List Nat := s.ns.flatMap (·.1.use) ++ (match s.a with | some o => o.use | none => []) ++ (match s.m with | some o => o.use | none => [])

def Stage.sets (s : Stage) : List Nat := s.ns.flatMap (fun q => match q.1.dst with | some d => [d] | none => []) ++ (match s.a with | some ⟨some d, _, _⟩ => [d] | _ => []) ++ (match s.m with | some ⟨some d, _, _⟩ => [d] | _ => [])
def dedup : List Nat → List Nat
  | [] => []
  | x :: r => let r' := dedup r; if r'.contains x then r' else x :: r'
def ICode.uses : ICode → List Nat
  | .region ops => ops.flatMap (·.use)
  | .draw st late => late ++ st.flatMap (·.uses)
  | .seq a b => a.uses ++ b.uses
  | .cond c a b => c.use ++ a.uses ++ b.uses
  | .block _ c => c.uses
  | .loop _ c => c.uses
  | .scope _ c _ k => c.uses ++ k.uses
  | .rf x _ _ keep => x.use ++ keep
  | .live _ c => c.uses
  | _ => []

/-- 'ex': where exits (2 * id) and jumps (2 * l + 1) lead. -/
def liveCode (ret : List Nat) : ICode → (ex : List (Nat × List Nat)) → List Nat → List Nat
  | .bad, _, out => out
  | .skip, _, out => out
  | .region ops, _, out => liveOps ops out
  | .draw st late, _, out =>
    let ds := st.flatMap (·.sets)
    union (((union out (st.flatMap (·.uses))).filter fun x => !ds.contains x)) late
  | .seq a b, ex, out => liveCode ret a ex (liveCode ret b ex out)
  | .cond c a b, ex, out => union (union (liveCode ret a ex out) (liveCode ret b ex out)) c.use
  | .block id c, ex, out => liveCode ret c ((2 * id, out) :: ex) out
  | .loop _ c, ex, _ => liveCode ret c ex (liveCode ret c ex (liveCode ret c ex []))
  | .exit id, ex, _ => match ex.find? (·.1 == 2 * id) with | some (_, l) => l | none => []
  | .ret, _, _ => ret
  | .goto l, ex, _ => match ex.find? (·.1 == 2 * l + 1) with | some (_, l) => l | none => []
  | .scope _ c lab k, ex, out =>
    let h1 := liveCode ret k ((2 * lab + 1, []) :: ex) out
    let h2 := liveCode ret k ((2 * lab + 1, h1) :: ex) out
    liveCode ret c ((2 * lab + 1, h2) :: ex) out
  | .rf x _ _ keep, _, out => union (union out keep) x.use
  | .live _ c, ex, out => liveCode ret c ex out

/-- Behind this a look at the live slots is of no use. -/
def ICode.short : ICode → Bool
  | .ret | .skip | .exit _ | .goto _ => true
  | .region l => l.length < 2
  | _ => false
def liveAt (l : List Nat) (c : ICode) : ICode := if c.short then c else .live l c
/-- The live slots are noted: at the heads of loops, and between parts. (For tools: what is noted proves nothing and needs no proof.) -/
def annot (ret : List Nat) : ICode → (ex : List (Nat × List Nat)) → List Nat → ICode
  | .seq a b, ex, out => .seq (annot ret a ex (liveCode ret b ex out)) (liveAt (dedup (liveCode ret b ex out)) (annot ret b ex out))
  | .cond c a b, ex, out => .cond c (annot ret a ex out) (annot ret b ex out)
  | .block id c, ex, out => .block id (annot ret c ((2 * id, out) :: ex) out)
  | .loop l c, ex, _ =>
    let h := liveCode ret (.loop l c) ex []
    .loop (dedup h) (annot ret c ex h)
  | .scope _ c lab k, ex, out =>
    let h1 := liveCode ret k ((2 * lab + 1, []) :: ex) out
    let h2 := liveCode ret k ((2 * lab + 1, h1) :: ex) out
    .scope (dedup h2) (annot ret c ((2 * lab + 1, h2) :: ex) out) lab (annot ret k ((2 * lab + 1, h2) :: ex) out)
  | c, _, _ => c

/-! ### Code -/
/-- What lies at a place of the code. -/
def sub : Code → List Bool → Option Code
  | c, [] => some c
  | .seq a b, x :: p => sub (if x then b else a) p
  | .cond _ a b, x :: p => sub (if x then b else a) p
  | .block _ c, _ :: p => sub c p
  | .loop c, _ :: p => sub c p
  | .rangeFunc _ _ a b, x :: p => sub (if x then b else a) p
  | _, _ :: _ => none

/-- The labels in code. -/
def labels : Code → List Nat
  | .label l => [l]
  | .seq a b => labels a ++ labels b
  | .cond _ a b => labels a ++ labels b
  | .block _ c => labels c
  | .loop c => labels c
  | _ => []

def dstOk (N : Nat) (l : List ROp) : Bool := l.all fun o => match o.dst with | some d => decide (d < N) | none => true

def compCode (P : Program) (f N : Nat) : Option (List Bool) → Code → ICode
  | _, .skip => .skip
  | _, .label _ => .skip
  | _, .region _ ops dr => match ops.toList.mapM (compOper P ops) with
    | some l => if dr then
        let p := planOf ops.toList l
        if planOk ops.toList l N p then .draw (stagesOf l p) (lateSlots l p) else .bad
      else if dstOk N l then .region l else .bad
    | none => .bad
  | p, .seq a b => .seq (compCode P f N (p.map (false :: ·)) a) (compCode P f N (p.map (true :: ·)) b)
  | p, .cond c a b => match compX c with
    | some c => .cond c (compCode P f N (p.map (false :: ·)) a) (compCode P f N (p.map (true :: ·)) b)
    | none => .bad
  | p, .block id c => .block id (compCode P f N (p.map (false :: ·)) c)
  | p, .loop c => .loop [] (compCode P f N (p.map (false :: ·)) c)
  | _, .exit id => .exit id
  | _, .ret => .ret
  | _, .goto l => .goto l
  | p, .rangeFunc g _ a b => match compX g, p with
    | some x, some q => .rf x f q.reverse ((compCode P f N none a).uses ++ (compCode P f N none b).uses)
    | _, _ => .bad
  | _, _ => .bad

/-- Code that may hold a scope, at its top. -/
def compTop (P : Program) (f N : Nat) : Option (List Bool) → Code → ICode
  | p, .seq a b => .seq (compTop P f N (p.map (false :: ·)) a) (compTop P f N (p.map (true :: ·)) b)
  | _, .scope c => match labels c with
    | [lab] => match findLabel c lab with
      | some k => .scope [] (compCode P f N none c) lab (compCode P f N none k)
      | none => .bad
    | _ => .bad
  | p, .block id c => .block id (compTop P f N (p.map (false :: ·)) c)
  | p, c => compCode P f N p c

/-- The ways to the loops over functions. -/
def rfPaths : Code → List (List Bool)
  | .seq a b => (rfPaths a).map (false :: ·) ++ (rfPaths b).map (true :: ·)
  | .cond _ a b => (rfPaths a).map (false :: ·) ++ (rfPaths b).map (true :: ·)
  | .block _ c => (rfPaths c).map (false :: ·)
  | .loop c => (rfPaths c).map (false :: ·)
  | .rangeFunc _ _ a b => [] :: ((rfPaths a).map (false :: ·) ++ (rfPaths b).map (true :: ·))
  | _ => []

def compLoop (P : Program) (f N : Nat) (root : Code) (p : List Bool) : Option (List Bool × List Nat × ICode × ICode) :=
  match sub root p with
  | some (.rangeFunc _ ps a b) => if ps.toList.all (· < N) then
      let ib := compCode P f N none b
      some (p, ps.toList, compCode P f N none a, ib)
    else none
  | _ => none

def compRes (P : Program) : ResultVar → Option IR
  | .tmp t => some (.tmp t)
  | .cell t ty => (shapeOf P ty).map (.cell t)

def compFunc (P : Program) (f : Nat) : Option IFunc :=
  match P.funcs[f]? with
  | none => none
  | some fn => match fn.body with
    | none => none
    | some c => if enterable P f && decide (fn.params.size + fn.nfree ≤ fn.ntmps) then match fn.results.toList.mapM (compRes P) with
        | some rs =>
          some ⟨fn.params.size + fn.nfree, rs, compTop P f fn.ntmps (some []) c, (rfPaths c).filterMap (compLoop P f fn.ntmps c)⟩
        | none => none
      else none

/-- Without what is noted. -/
def strip : ICode → ICode
  | .seq a b => .seq (strip a) (strip b)
  | .cond c a b => .cond c (strip a) (strip b)
  | .block id c => .block id (strip c)
  | .loop _ c => .loop [] (strip c)
  | .scope _ a lab b => .scope [] (strip a) lab (strip b)
  | .live _ c => strip c
  | c => c
def stripF (F : IFunc) : IFunc := ⟨F.nparams, F.results, strip F.body, F.loops.map fun l => (l.1, l.2.1, strip l.2.2.1, strip l.2.2.2)⟩
def annotF (F : IFunc) : IFunc :=
  let ret := F.results.flatMap fun r => match r with | .tmp t => [t] | .cell t _ => [t]
  ⟨F.nparams, F.results, annot ret F.body [] ret, F.loops.map fun l => (l.1, l.2.1, annot ret l.2.2.1 [] l.2.2.2.uses, annot ret l.2.2.2 [] [])⟩

/-- The loops over functions of the program. -/
def lamOf (P : Program) (f : Nat) (p : List Bool) : Option (Array Tmp × Code × Code × Nat) :=
  match P.funcs[f]? with
  | some fn => match fn.body with
    | some c => match sub c p with
      | some (.rangeFunc _ ps a b) => some (ps, a, b, fn.ntmps)
      | _ => none
    | none => none
  | none => none
end Go.Proofs.YtljaigbjiheohaaDoor
