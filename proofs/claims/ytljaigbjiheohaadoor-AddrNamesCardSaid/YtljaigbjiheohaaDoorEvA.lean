/- The evaluator: operations, code, functions. Definitions alone. -/
import Derived.Test.YtljaigbjiheohaaDoorEv9
import Derived.Lib.Bytealg
import Derived.Lib.MakeNoZero
namespace Go.Proofs.YtljaigbjiheohaaDoor
set_option linter.unusedSimpArgs false
set_option linter.unusedVariables false
open Go.RowKit

/-- Kinds of what has a length. -/
inductive LK where
  | str | slice | map
  deriving DecidableEq

/-- The operations, with what is to be known of types worked out. -/
inductive IO' where
  | mv (x : X)
  | pick (c a b : X)
  | fresh (z : List AV)
  | box (x : X)
  | build (z : List AV) (ps : List (Nat × Nat × X))
  | bslice (z : List AV) (len : Nat) (ps : List (Nat × Nat × X))
  | load (n : Option Nat) (x : X)
  | store (n : Nat) (x y : X)
  | nilck (x : X)
  | bin (tk : TK) (cst : Bool) (op : BinOp) (x y : X)
  | un (op : UnOp) (x : X)
  | toInt (k : IntKind) (x : X)
  | faddr (off : Nat) (x : X)
  | fld (off : Nat) (n : Option Nat) (x : X)
  | iaddr (arr : Option Nat) (size : Nat) (x ix : X)
  | ixa (len size : Nat) (m : Option Nat) (x ix : X)
  | ixs (x ix : X)
  | slice (size : Nat) (x : X) (lo hi mx : Option X)
  | sla (n size : Nat) (x : X) (lo hi mx : Option X)
  | sls (x : X) (lo hi : Option X)
  | ext (x : X) (k : Nat)
  | mkf (fn : Fn) (a b : List X)
  | mks (z : List AV) (bytes : Nat) (l c : X)
  | len (k : LK) (x : X)
  | copy (size : Nat) (x y : X)
  | app (size bytes : Nat) (x y : X)
  | mm (mx : Bool) (xs : List X)
  | eqag (neg : Bool) (ks : List TK) (x y : X)
  | same (x : X)
  | toStr (x : X)
  | toBytes (x : X)
  | ixbyte (x y : X)
  | mkno (n : X)
  | ovl (x y : X)
  | clear (z : List AV) (x : X)
  | cap (x : X)
  | appz (z : List AV) (bytes : Nat) (x n : X)
  | mkmap (hint : Option X)
  | mlook (ag : Bool) (ks : List TK) (z : AV) (ok : Bool) (x k : X)
  | mentry (ag : Bool) (ks : List TK) (z : AV) (x k : X)
  | mstore (x st v : X)
  | mupd (ag : Bool) (ks : List TK) (x k v : X)
  | mdel (ag : Bool) (ks : List TK) (x k : X)
  | bad

/-- An operation, or a call. -/
inductive IOp where
  | op (io : IO')
  | call (f : FuncId) (xs : List X)
  | callv (x : X) (xs : List X)

def lenOk (k : LK) (x : AV) : Bool :=
  match k, x with
  | .str, .s _ => true
  | .slice, .sn => true
  | .slice, .se => true
  | .slice, .sl .. => true
  | .map, .mn => true
  | .map, .m _ => true
  | _, _ => false

/-- Two cells of one kind. -/
def eqCell : TK → AV → AV → Option Bool
  | .int, .i a m, .i b n => if a = b then some (m == n) else none
  | .bool, .b m, .b n => some (m == n)
  | .str, .s m, .s n => some (m == n)
  | _, _, _ => none

/-- Cells of like kinds, held against each other. -/
def eqCells : List TK → List AV → List AV → Option Bool
  | [], _, _ => some true
  | k :: ks, x :: xs, y :: ys => match eqCell k x y, eqCells ks xs ys with
    | some a, some b => some (a && b)
    | _, _ => none
  | _, _, _ => none

def eqAgV (neg : Bool) (ks : List TK) (x y : AV) : Option AV :=
  match x, y with
  | .ag xs, .ag ys => if xs.length = ks.length ∧ ys.length = ks.length then match eqCells ks xs ys with
      | some r => some (.b (if neg then !r else r))
      | none => none
    else none
  | _, _ => none

def mmV (mx : Bool) : AV → List AV → Option AV
  | x, [] => some x
  | .i k a, .i k' b :: r => if k = k' then mmV mx (.i k (if mx then (if b > a then b else a) else (if b < a then b else a))) r else none
  | _, _ => none

def bytesV : List AV → Option (List UInt8)
  | [] => some []
  | .i .u8 n :: r => match bytesV r with
    | some l => some (UInt8.ofNat n.toNat :: l)
    | none => none
  | _ => none

def toStrV (S : Mem) (x : AV) : Option AV :=
  match x with
  | .sn => some (.s [])
  | .se => some (.s [])
  | .sl i o v len _ _ => match rowAt S i o v len with
    | some cs => match bytesV cs with
      | some l => some (.s l)
      | none => none
    | none => none
  | _ => none

/-- A key's cells. -/
def keyC (ag : Bool) (ks : List TK) (x : AV) : Option (List AV) :=
  match ag, x with
  | true, .ag xs => if xs.length = ks.length then some xs else none
  | true, _ => none
  | false, .ag _ => none
  | false, .tu _ => none
  | false, .u => none
  | false, .ud => none
  | false, x => if ks.length = 1 then some [x] else none

/-- Where a key lies. -/
def findK (ag : Bool) (ks : List TK) (xs : List AV) : List (AV × AV × Nat) → Nat → Option (Option Nat)
  | [], _ => some none
  | e :: es, i => match keyC ag ks e.1 with
    | some ys => match eqCells ks xs ys with
      | some true => some (some i)
      | some false => findK ag ks xs es (i + 1)
      | none => none
    | none => none

def mapOf (S : Mem) : AV → Option (List (AV × AV × Nat))
  | .mn => some []
  | .m i => match S[i]? with
    | some (.map es _) => some es
    | _ => none
  | _ => none

def valAt (es : List (AV × AV × Nat)) (z : AV) : Option Nat → AV
  | some j => match es[j]? with
    | some e => e.2.1
    | none => z
  | none => z

def mlookV (S : Mem) (ag : Bool) (ks : List TK) (z : AV) (ok : Bool) (x k : AV) : Option AV :=
  match keyC ag ks k, mapOf S x with
  | some xs, some es => match findK ag ks xs es 0 with
    | some r => some (if ok then .tu [valAt es z r, .b r.isSome] else valAt es z r)
    | none => none
  | _, _ => none

def mentryV (S : Mem) (ag : Bool) (ks : List TK) (z : AV) (x k : AV) : Option (AV × Mem) :=
  match keyC ag ks k, x with
  | some xs, .m i => match S[i]? with
    | some (.map es cl) => match findK ag ks xs es 0 with
      | some (some j) => match es[j]? with
        | some e => some (.tu [e.2.1, .i .i64 e.2.2], S.set i (.map (es.set j (k, e.2.1, e.2.2)) cl))
        | none => none
      | some none => some (.tu [z, .i .i64 cl], S.set i (.map (es ++ [(k, z, cl)]) (cl + 1)))
      | none => none
    | _ => none
  | _, _ => none

def mstoreV (S : Mem) (x st v : AV) : Option Mem :=
  match x, st with
  | .m i, .i _ born => match S[i]? with
    | some (.map es cl) => match es.findIdx? (fun e => ((e.2.2 : Nat) : Int) == born) with
      | some j => match es[j]? with
        | some e => some (S.set i (.map (es.set j (e.1, v, e.2.2)) cl))
        | none => none
      | none => none
    | _ => none
  | _, _ => none

def mupdV (S : Mem) (ag : Bool) (ks : List TK) (x k v : AV) : Option Mem :=
  match keyC ag ks k, x with
  | some xs, .m i => match S[i]? with
    | some (.map es cl) => match findK ag ks xs es 0 with
      | some (some j) => match es[j]? with
        | some e => some (S.set i (.map (es.set j (k, v, e.2.2)) cl))
        | none => none
      | some none => some (S.set i (.map (es ++ [(k, v, cl)]) (cl + 1)))
      | none => none
    | _ => none
  | _, _ => none

def mdelV (S : Mem) (ag : Bool) (ks : List TK) (x k : AV) : Option Mem :=
  match keyC ag ks k, x with
  | some _, .mn => some S
  | some xs, .m i => match S[i]? with
    | some (.map es cl) => match findK ag ks xs es 0 with
      | some (some j) => some (S.set i (.map (es.eraseIdx j) cl))
      | some none => some S
      | none => none
    | _ => none
  | _, _ => none

def capV : AV → Option Nat
  | .sn => some 0
  | .sl _ _ _ _ cap true => some cap
  | _ => none

/-- A slice's cells are set to zero. -/
def clearV (S : Mem) (z : List AV) : AV → Option (AV × Mem)
  | .sn => some (.tu [], S)
  | .se => some (.tu [], S)
  | .sl i o v len _ _ => if len = 0 then some (.tu [], S) else match S[i]? with
    | some (.cells cs ver op true) => if ver = v ∧ o + len * z.length ≤ cs.length ∧ (zerosV z len).all AV.one = true then some (.tu [], S.set i (.cells (splice cs o (zerosV z len)) v op true)) else none
    | _ => none
  | _ => none

def evParts (e : Env) (ps : List (Nat × Nat × X)) : List (Nat × Nat × AV) := ps.map fun p => (p.1, p.2.1, p.2.2.ev e)

/-- Two blocks of which the first is plain memory, the second has cells. -/
def apartB (a b : Option Blk) (o v v2 : Nat) : Bool := match a, b with
  | some (.cells cs ver op true), some (.cells cs2 ver2 _ _) => decide (ver = v ∧ ver2 = v2 ∧ op ≠ some 1 ∧ o ≤ cs.length ∧ 0 < cs2.length)
  | _, _ => false

/-- An operation that calls nothing. -/
def evIO (e : Env) (S : Mem) : IO' → Option (AV × Mem)
  | .mv x => some (x.ev e, S)
  | .pick c a b => match c.ev e with
    | .b true => some (a.ev e, S)
    | .b false => some (b.ev e, S)
    | _ => none
  | .fresh z => some (.p S.length 0 0, S ++ [.cells z 0 none true])
  | .box x => match (x.ev e).cells with
    | some cs => some (.p S.length 0 0, S ++ [.cells cs 0 none true])
    | none => none
  | .build z ps => match fillV z (evParts e ps) with
    | some r => some (.ag r, S)
    | none => none
  | .bslice z len ps => match fillV (zerosV z len) (evParts e ps) with
    | some r => some (.sl S.length 0 0 len len true, S ++ [.cells r 0 none true])
    | none => none
  | .load n x => match ldCells S n (x.ev e) with
    | some y => some (y, S)
    | none => none
  | .store n x y => match stCells S n (x.ev e) (y.ev e) with
    | some S' => some (.u, S')
    | none => none
  | .nilck x => match nilV (x.ev e) with
    | some y => some (y, S)
    | none => none
  | .bin tk cst op x y => match binV tk cst op (x.ev e) (y.ev e) with
    | some z => some (z, S)
    | none => none
  | .un op x => match unV op (x.ev e) with
    | some y => some (y, S)
    | none => none
  | .toInt k x => match toIntV k (x.ev e) with
    | some y => some (y, S)
    | none => none
  | .faddr off x => match faddrV off (x.ev e) with
    | some y => some (y, S)
    | none => none
  | .fld off n x => match fldV off n (x.ev e) with
    | some y => some (y, S)
    | none => none
  | .iaddr arr size x ix => match iaddrV arr size (x.ev e) (ix.ev e) with
    | some y => some (y, S)
    | none => none
  | .ixa len size m x ix => match ixaV len size m (x.ev e) (ix.ev e) with
    | some y => some (y, S)
    | none => none
  | .ixs x ix => match ixsV (x.ev e) (ix.ev e) with
    | some y => some (y, S)
    | none => none
  | .slice size x lo hi mx => match sliceV S size (x.ev e) (lo.map (·.ev e)) (hi.map (·.ev e)) (mx.map (·.ev e)) with
    | some y => some (y, S)
    | none => none
  | .sla n size x lo hi mx => match slaV n size (x.ev e) (lo.map (·.ev e)) (hi.map (·.ev e)) (mx.map (·.ev e)) with
    | some y => some (y, S)
    | none => none
  | .sls x lo hi => match slsV (x.ev e) (lo.map (·.ev e)) (hi.map (·.ev e)) with
    | some y => some (y, S)
    | none => none
  | .ext x k => match extV k (x.ev e) with
    | some y => some (y, S)
    | none => none
  | .mkf fn a b => some (.f fn (a.map (·.ev e)) (b.map (·.ev e)), S)
  | .mks z bytes l c => match natV (l.ev e), natV (c.ev e) with
    | some l, some c => if l ≤ c ∧ bytes * c ≤ 140737488355328 ∧ c ≤ 140737488355328 then some (.sl S.length 0 0 l c true, S ++ [.cells (zerosV z c) 0 none true]) else none
    | _, _ => none
  | .len k x => if lenOk k (x.ev e) then match lenV S (x.ev e) with
      | some n => some (.i .i64 n, S)
      | none => none
    else none
  | .copy size x y => match copyV S size (x.ev e) (y.ev e) with
    | some (n, S') => some (.i .i64 n, S')
    | none => none
  | .app size bytes x y => match srcV S size (y.ev e) with
    | some (cs, n) => appV S size bytes (x.ev e) cs n
    | none => none
  | .mm mx xs => match xs.map (·.ev e) with
    | x :: r => match mmV mx x r with
      | some y => some (y, S)
      | none => none
    | [] => none
  | .eqag neg ks x y => match eqAgV neg ks (x.ev e) (y.ev e) with
    | some z => some (z, S)
    | none => none
  | .same x => match x.ev e with
    | .s l => some (.s l, S)
    | _ => none
  | .toStr x => match toStrV S (x.ev e) with
    | some y => some (y, S)
    | none => none
  | .toBytes x => match x.ev e with
    | .s l => some (if l.length = 0 then .se else .sl S.length 0 0 l.length l.length false, S ++ [.cells (l.map fun b => .i .u8 b.toNat) 0 (some 1) true])
    | _ => none
  | .clear z x => clearV S z (x.ev e)
  | .ixbyte x y => match x.ev e, y.ev e with
    | .s l, .i .u8 c => some (.i .i64 (Lib.indexByte l c.toNat.toUInt8), S)
    | _, _ => none
  | .ovl x y => match x.ev e, y.ev e with
    | .sl i o v _ _ _, .sl j _ v2 _ _ _ => if i ≠ j ∧ apartB (S[i]?) (S[j]?) o v v2 = true then some (.b false, S) else none
    | _, _ => none
  | .mkno n => match n.ev e with
    | .i .i64 z => if 0 < z ∧ z ≤ 140737488355328 then some (.sl S.length 0 0 z.toNat z.toNat false, S ++ [.cells (List.replicate z.toNat .u) 0 (some 1) true]) else none
    | _ => none
  | .cap x => match capV (x.ev e) with
    | some n => some (.i .i64 n, S)
    | none => none
  | .appz z bytes x n => match natV (n.ev e) with
    | some n => if n ≤ lim ∧ n * bytes ≤ lim then appV S z.length bytes (x.ev e) (zerosV z n) n else none
    | none => none
  | .mkmap h => match h.map (·.ev e) with
    | none => some (.m S.length, S ++ [.map [] 0])
    | some (.i _ _) => some (.m S.length, S ++ [.map [] 0])
    | _ => none
  | .mlook ag ks z ok x k => match mlookV S ag ks z ok (x.ev e) (k.ev e) with
    | some y => some (y, S)
    | none => none
  | .mentry ag ks z x k => mentryV S ag ks z (x.ev e) (k.ev e)
  | .mstore x st v => match mstoreV S (x.ev e) (st.ev e) (v.ev e) with
    | some S' => some (.u, S')
    | none => none
  | .mupd ag ks x k v => match mupdV S ag ks (x.ev e) (k.ev e) (v.ev e) with
    | some S' => some (.u, S')
    | none => none
  | .mdel ag ks x k => match mdelV S ag ks (x.ev e) (k.ev e) with
    | some S' => some (.tu [], S')
    | none => none
  | .bad => none

/-- What a function does with arguments and memory. -/
abbrev Spec := List AV → Mem → Option (AV × Mem)

/-- What is known of calls: of functions, and of the 'yield' of the loop whose record is the block. -/
structure Orc where
  fn : FuncId → Spec
  y : Nat → Spec

def evOp (O : Orc) (e : Env) (S : Mem) : IOp → Option (AV × Mem)
  | .call f xs => O.fn f (xs.map (·.ev e)) S
  | .callv x xs => match x.ev e with
    | .f (.func f) a b => O.fn f (a ++ xs.map (·.ev e) ++ b) S
    | .y i => O.y i (xs.map (·.ev e)) S
    | _ => none
  | .op o => evIO e S o

structure ROp where
  dst : Option Nat
  guard : Option (Nat × Bool)
  io : IOp

def putE (e : Env) : Option Nat → AV → Env
  | some t, x => (t, x) :: e
  | none, _ => e

def wantV (e : Env) : Option (Nat × Bool) → Option Bool
  | none => some true
  | some (t, b) => match e.get t with
    | .b x => some (x == b)
    | .u => none
    | _ => some false

def evOne (O : Orc) (e : Env) (S : Mem) (o : ROp) : Option (AV × Mem) :=
  match wantV e o.guard with
  | none => none
  | some false => some (.ud, S)
  | some true => evOp O e S o.io

def evOps (O : Orc) : List ROp → Env → Mem → Option (Env × Mem)
  | [], e, S => some (e, S)
  | o :: r, e, S => match evOne O e S o with
    | none => none
    | some (x, S') => evOps O r (putE e o.dst x) S'

/-- A stage of a region whose order is drawn: what turns no memory (and until which stage it may come); one new row; what may turn memory. -/
structure Stage where
  ns : List (ROp × Nat)
  a : Option ROp
  m : Option ROp

inductive ICode where
  | bad
  | skip
  | region (ops : List ROp)
  | draw (st : List Stage) (late : List Nat)
  | seq (a b : ICode)
  | cond (c : X) (a b : ICode)
  | block (id : Nat) (c : ICode)
  | loop (live : List Nat) (c : ICode)
  | exit (id : Nat)
  | ret
  | goto (l : Nat)
  | scope (live : List Nat) (start : ICode) (lab : Nat) (cont : ICode)
  | rf (x : X) (f : Nat) (path : List Bool) (keep : List Nat)
  | live (l : List Nat) (c : ICode)

inductive IX where
  | normal
  | exit (id : Nat)
  | ret
  | goto (l : Nat)

def Jump.ix : Jump → IX
  | .ret => .ret
  | .exit id => .exit id
  | .goto l => .goto l

/-- The slots that are kept. -/
def keepE (e : Env) (l : List Nat) : Env := l.map fun t => (t, e.get t)

mutual
/-- Surely alike. -/
def avEqv : AV → AV → Bool
  | .u, .u => true
  | .ud, .ud => true
  | .b x, .b x' => x == x'
  | .i k n, .i k' n' => decide (k = k') && n == n'
  | .s l, .s l' => l == l'
  | .pn, .pn => true
  | .p a b c, .p a' b' c' => a == a' && b == b' && c == c'
  | .sn, .sn => true
  | .se, .se => true
  | .sl a b c d e f, .sl a' b' c' d' e' f' => a == a' && b == b' && c == c' && d == d' && e == e' && f == f'
  | .mn, .mn => true
  | .m a, .m a' => a == a'
  | .nf, .nf => true
  | .ni, .ni => true
  | .y a, .y a' => a == a'
  | .f (.func a) x z, .f (.func a') x' z' => a == a' && avEqvL x x' && avEqvL z z'
  | .it t x, .it t' x' => t == t' && avEqv x x'
  | .ag x, .ag x' => avEqvL x x'
  | .tu x, .tu x' => avEqvL x x'
  | _, _ => false
def avEqvL : List AV → List AV → Bool
  | [], [] => true
  | x :: xs, x' :: xs' => avEqv x x' && avEqvL xs xs'
  | _, _ => false
end

/-! ### Which slots an operation looks at -/
def X.use : X → List Nat
  | .t n => [n]
  | .c _ => []
def optUse : Option X → List Nat
  | some x => x.use
  | none => []
def IO'.use : IO' → List Nat
  | .mv x | .box x | .load _ x | .nilck x | .un _ x | .toInt _ x | .faddr _ x | .fld _ _ x | .ext x _ | .len _ x | .same x | .toStr x | .toBytes x | .clear _ x | .cap x | .mkno x => x.use
  | .pick a b c => a.use ++ b.use ++ c.use
  | .fresh _ => []
  | .build _ ps | .bslice _ _ ps => ps.flatMap fun p => p.2.2.use
  | .store _ x y | .bin _ _ _ x y | .iaddr _ _ x y | .ixa _ _ _ x y | .ixs x y | .mks _ _ x y | .copy _ x y | .app _ _ x y | .eqag _ _ x y | .appz _ _ x y | .ixbyte x y | .ovl x y => x.use ++ y.use
  | .slice _ x a b c | .sla _ _ x a b c => x.use ++ optUse a ++ optUse b ++ optUse c
  | .sls x a b => x.use ++ optUse a ++ optUse b
  | .mkf _ a b => a.flatMap X.use ++ b.flatMap X.use
  | .mkmap h => optUse h
  | .mlook _ _ _ _ x k => x.use ++ k.use
  | .mentry _ _ _ x k => x.use ++ k.use
  | .mdel _ _ x k => x.use ++ k.use
  | .mstore x y z | .mupd _ _ x y z => x.use ++ y.use ++ z.use
  | .mm _ xs => xs.flatMap X.use
  | .bad => []
def IOp.use : IOp → List Nat
  | .op io => io.use
  | .call _ xs => xs.flatMap X.use
  | .callv x xs => x.use ++ xs.flatMap X.use
def evNs (O : Orc) : List (ROp × Nat) → Env → Mem → Option Env
  | [], e, _ => some e
  | (o, _) :: r, e, S => match evOne O e S o with
    | none => none
    | some (x, _) => evNs O r (putE e o.dst x) S

def evOpt (O : Orc) (o : Option ROp) (e : Env) (S : Mem) : Option (Env × Mem) :=
  match o with
  | none => some (e, S)
  | some o => match evOne O e S o with
    | none => none
    | some (x, S') => some (putE e o.dst x, S')

/-- What is noted of a stage: the memory ahead of it; the slots ahead of its new row; ahead of what may turn memory; behind it. -/
structure Noted where
  S : Mem
  e1 : Env
  e2 : Env
  e3 : Env

/-- The run in one order. -/
def evStages (O : Orc) : List Stage → Env → Mem → Option (Env × Mem × List Noted)
  | [], e, S => some (e, S, [])
  | st :: r, e, S => match evNs O st.ns e S with
    | none => none
    | some e1 => match evOpt O st.a e1 S with
      | none => none
      | some (e2, S2) => match evOpt O st.m e2 S2 with
        | none => none
        | some (e3, S3) => match evStages O r e3 S3 with
          | none => none
          | some (ef, Sf, pre) => some (ef, Sf, ⟨S, e1, e2, e3⟩ :: pre)

def outE (e : Env) : Option Nat → AV
  | some t => e.get t
  | none => .u

/-- In a stage, and in the later ones, an operation yields what is noted. -/
def chkN (O : Orc) (er ef : Env) (pre : List Noted) (o : ROp) (hi : Nat) : Nat → Nat → Bool
  | 0, _ => true
  | fuel + 1, s => if s ≤ hi then match pre[s]? with
      | some N => (match evOne O er N.S o with
        | some (x, _) => (match o.dst with | some t => avEqv x (ef.get t) | none => true)
        | none => false) && chkN O er ef pre o hi fuel (s + 1)
      | none => false
    else true

/-- Slots that are alike. -/
def likeOn (e e' : Env) (l : List Nat) : Bool := l.all fun t => avEqv (e.get t) (e'.get t)

def ROp.use (o : ROp) : List Nat := o.io.use ++ (match o.guard with | some (t, _) => [t] | none => [])
def dstL (r : ROp) : List Nat := match r.dst with | some d => [d] | none => []

def chkOpt (er ef e e' : Env) : Option ROp → Bool
  | none => true
  | some o => likeOn e er o.use && likeOn e' ef (dstL o)

def chkStages (O : Orc) (er ef : Env) (pre : List Noted) : List Stage → List Noted → Nat → Bool
  | st :: r, N :: r', s => (st.ns.all fun p => chkN O er ef pre p.1 p.2 (p.2 + 1) s) && chkOpt er ef N.e1 N.e2 st.a && chkOpt er ef N.e2 N.e3 st.m && chkStages O er ef pre r r' (s + 1)
  | [], [], _ => true
  | _, _, _ => false

/-- 'late': slots that are written last, and read ahead of that. -/
def evDraw (O : Orc) (st : List Stage) (late : List Nat) (e : Env) (S : Mem) : Option (Env × Mem) :=
  match evStages O st e S with
  | some (ef, Sf, pre) => if chkStages O (keepE e late ++ ef) ef pre st pre 0 then some (ef, Sf) else none
  | none => none

def evCode (O : Orc) (rd : Bool) : Nat → ICode → Env → Mem → List Nat → Option (IX × Env × Mem × List Nat)
  | 0, _, _, _, _ => none
  | _ + 1, .bad, _, _, _ => none
  | _ + 1, .skip, e, S, d => some (.normal, e, S, d)
  | _ + 1, .region ops, e, S, d => match evOps O ops e S with
    | some (e', S') => some (.normal, e', S', d)
    | none => none
  | _ + 1, .draw st late, e, S, d => match evDraw O st late e S with
    | some (e', S') => some (.normal, e', S', d)
    | none => none
  | n + 1, .live l c, e, S, d => evCode O rd n c (keepE e l) S d
  | n + 1, .seq a b, e, S, d => match evCode O rd n a e S d with
    | some (.normal, e', S', d') => evCode O rd n b e' S' d'
    | r => r
  | n + 1, .cond c a b, e, S, d => match c.ev e with
    | .b true => evCode O rd n a e S d
    | .b false => evCode O rd n b e S d
    | _ => none
  | n + 1, .block id c, e, S, d => match evCode O rd n c e S d with
    | some (.exit id', e', S', d') => if id' = id then some (.normal, e', S', d') else some (.exit id', e', S', d')
    | r => r
  | n + 1, .loop l c, e, S, d => match evCode O rd n c (keepE e l) S d with
    | some (.normal, e', S', d') => evCode O rd n (.loop l c) e' S' d'
    | r => r
  | _ + 1, .exit id, e, S, d => some (.exit id, e, S, d)
  | _ + 1, .ret, e, S, d => some (.ret, e, S, d)
  | _ + 1, .goto l, e, S, d => some (.goto l, e, S, d)
  | n + 1, .scope l c lab k, e, S, d => match evCode O rd n c e S d with
    | some (.goto g, e', S', d') => if g = lab then evCode O rd n (.scope l k lab k) (keepE e' l) S' d' else none
    | r => r
  | _ + 1, .rf x f path keep, e, S, d => if rd then none else match x.ev e with
    | .f (.func g) a b => match O.fn g (a ++ [.y (S.length + 1)] ++ b) (S ++ [.dfr true, .loop f path (keepE e keep) .ready none]) with
      | some (_, S2) => match S2[S.length + 1]? with
        | some (.loop f' path' env st pend) => if st = .busy then none else
            some ((match pend with | none => .normal | some j => j.ix), e, S2.set (S.length + 1) (.loop f' path' env .exhausted pend), S.length :: d)
        | _ => none
      | none => none
    | _ => none

/-- Where a result lies: in a slot, or in a variable. -/
inductive IR where
  | tmp (t : Nat)
  | cell (t : Nat) (n : Option Nat)

structure IFunc where
  nparams : Nat
  results : List IR
  body : ICode
  loops : List (List Bool × List Nat × ICode × ICode)

def evRes (e : Env) (S : Mem) : IR → Option AV
  | .tmp t => some (e.get t)
  | .cell t n => ldCells S n (e.get t)

def evResults (e : Env) (S : Mem) : List IR → Option (List AV)
  | [] => some []
  | r :: rs => match evRes e S r, evResults e S rs with
    | some x, some xs => some (x :: xs)
    | _, _ => none

def resV : List AV → AV
  | [x] => x
  | xs => .tu xs

def argsE : Nat → List AV → Env
  | _, [] => []
  | k, x :: r => (k, x) :: argsE (k + 1) r

/-- The marks among the deferred calls are taken. -/
def evLeave : List Nat → Mem → Option Mem
  | [], S => some S
  | i :: r, S => match S[i]? with
    | some (.dfr true) => evLeave r (S.set i (.dfr false))
    | _ => none

def isEnd : IX → Bool
  | .normal => true
  | .ret => true
  | _ => false

def evFunc (O : Orc) (n : Nat) (F : IFunc) : Spec := fun args S =>
  if args.length = F.nparams then
    match evCode O false n F.body (argsE 0 args) S [] with
    | some (x, e, S', d) => if isEnd x then match evLeave d S' with
        | some S'' => match evResults e S'' F.results with
          | some xs => some (resV xs, S'')
          | none => none
        | none => none
      else none
    | none => none
  else none

def ixJump : IX → Option Jump
  | .normal => none
  | .ret => some .ret
  | .exit id => some (.exit id)
  | .goto l => some (.goto l)

def bindE : List Nat → List AV → Env → Env
  | p :: ps, x :: xs, e => bindE ps xs ((p, x) :: e)
  | _, _, e => e

/-- A round of a loop over a function. -/
def evRound (O : Orc) (n : Nat) (T : FuncId → Option IFunc) (i : Nat) : Spec := fun args S =>
  match S[i]? with
  | some (.loop f path env _ _) => match T f with
    | some F => match F.loops.find? (fun l => l.1 == path) with
      | some (_, ps, ia, ib) => if args.length = ps.length then match evCode O true n ia (bindE ps args env) S [] with
          | some (.normal, e1, S1, []) => match S1[i]? with
            | some (.loop f1 p1 env1 .ready pe1) => match evCode O true n ib e1 (S1.set i (.loop f1 p1 env1 .busy pe1)) [] with
              | some (x, _, S2, _) => match S2[i]? with
                | some (.loop f2 p2 env2 _ _) => some (.b (ixJump x).isNone, S2.set i (.loop f2 p2 env2 (if (ixJump x).isNone then .ready else .done) (ixJump x)))
                | _ => none
              | none => none
            | _ => none
          | _ => none
        else none
      | none => none
    | none => none
  | _ => none

def evAll (T : FuncId → Option IFunc) (m : Nat) : Nat → Orc
  | 0 => ⟨fun _ _ _ => none, fun _ _ _ => none⟩
  | n + 1 => ⟨fun f => match T f with
    | some F => evFunc (evAll T m n) m F
    | none => fun _ _ => none, evRound (evAll T m n) m T⟩
end Go.Proofs.YtljaigbjiheohaaDoor
