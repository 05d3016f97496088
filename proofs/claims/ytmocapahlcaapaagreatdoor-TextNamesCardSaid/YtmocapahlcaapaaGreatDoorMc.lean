/- Proved here: what the law of this claim leans on (an evaluator of the model's code, contracts of functions). No condition. -/
import Derived.Test.YtmocapahlcaapaaGreatDoorMb
import Derived.ChangeArms
import Derived.DataReads
import Derived.Carry
import Derived.Lib.Join
import Derived.Shelf.SlIterI.Nil
import Derived.Lib.ItoaNum
import Derived.Lib.AtoiAll
import Derived.Lib.AppendIntMem
import Derived.RangeFuncRecord
import Derived.Lib.Fields
import Derived.Lib.Bytealg
import Derived.Lib.ParseIntB
namespace Go.Proofs.YtmocapahlcaapaaGreatDoor
set_option linter.unusedSimpArgs false
set_option linter.unusedVariables false
open Go.RowKit

section
variable {P : Program} {O : Orc} {S0 : Mem} {rd : Bool} {e : Env} {S : Mem} {d : List Nat} {Q : Kont} {k : AV → Mem → Prop} {k' : Env → Mem → Prop}

/-! ### Code -/
theorem W_skip : W P O S0 rd .skip e S d Q = Q .normal e S d := (rfl)
theorem W_region {ops : List ROp} : W P O S0 rd (.region ops) e S d Q = wOps O ops e S (normK Q d) := (rfl)
theorem W_seq {a b : ICode} : W P O S0 rd (.seq a b) e S d Q = W P O S0 rd a e S d (seqK (W P O S0 rd b) Q) := (rfl)
theorem W_live {l : List Nat} {c : ICode} : W P O S0 rd (.live l c) e S d Q = W P O S0 rd c (keepE e l) S d Q := (rfl)
theorem W_cond {c : X} {a b : ICode} : W P O S0 rd (.cond c a b) e S d Q = wCond (c.ev e) (W P O S0 rd a e S d Q) (W P O S0 rd b e S d Q) := (rfl)
theorem W_block {id : Nat} {c : ICode} : W P O S0 rd (.block id c) e S d Q = W P O S0 rd c e S d (blockK id Q) := (rfl)
theorem W_exit {id : Nat} : W P O S0 rd (.exit id) e S d Q = Q (.exit id) e S d := (rfl)
theorem W_ret : W P O S0 rd .ret e S d Q = Q .ret e S d := (rfl)
theorem W_goto {l : Nat} : W P O S0 rd (.goto l) e S d Q = Q (.goto l) e S d := (rfl)
theorem normK_app : normK Q d e S = Q .normal e S d := (rfl)
theorem blockK_exit_same {id : Nat} : blockK id Q (.exit id) e S d = Q .normal e S d := by rw [blockK_exit, if_pos rfl]
theorem wCond_true {A B : Prop} : wCond (.b true) A B = A := by simp [wCond]
theorem wCond_false {A B : Prop} : wCond (.b false) A B = B := by simp [wCond]
theorem wCond_dec {p : Prop} [Decidable p] {A B : Prop} : wCond (.b (decide p)) A B = ((p → A) ∧ (¬ p → B)) := by simp [wCond]

/-! ### Operations in the order of the text -/
def opsK (O : Orc) (r : List ROp) (e : Env) (dst : Option Nat) (k : Env → Mem → Prop) : AV → Mem → Prop := fun x S => wOps O r (putE e dst x) S k
def gA (O : Orc) (io : IOp) (S : Mem) (r : List ROp) (dst : Option Nat) (k : Env → Mem → Prop) : Env → Prop := fun e => optK (evOp O e S io) (opsK O r e dst k)
def gB (O : Orc) (r : List ROp) (S : Mem) (dst : Option Nat) (k : Env → Mem → Prop) : Env → Prop := fun e => wOps O r (putE e dst .ud) S k
theorem wOps_nil : wOps O [] e S k' = k' e S := (rfl)
theorem wOps_op {dst : Option Nat} {io : IOp} {r : List ROp} : wOps O (⟨dst, none, io⟩ :: r) e S k' = optK (evOp O e S io) (opsK O r e dst k') := (rfl)
theorem wOps_gd {dst : Option Nat} {t : Nat} {b : Bool} {io : IOp} {r : List ROp} : wOps O (⟨dst, some (t, b), io⟩ :: r) e S k' = wGd (e.get t) e t b (gA O io S r dst k') (gB O r S dst k') := (rfl)
theorem opsK_some {r : List ROp} {t : Nat} {x : AV} : opsK O r e (some t) k' x S = wOps O r ((t, x) :: e) S k' := (rfl)
theorem opsK_none {r : List ROp} {x : AV} : opsK O r e none k' x S = wOps O r e S k' := (rfl)
theorem gA_app {io : IOp} {r : List ROp} {dst : Option Nat} : gA O io S r dst k' e = optK (evOp O e S io) (opsK O r e dst k') := (rfl)
theorem gB_some {r : List ROp} {t : Nat} : gB O r S (some t) k' e = wOps O r ((t, .ud) :: e) S k' := (rfl)
theorem gB_none {r : List ROp} : gB O r S none k' e = wOps O r e S k' := (rfl)

theorem wGd_tt {t : Nat} {A B : Env → Prop} : wGd (.b true) e t true A B = A ((t, .b true) :: e) := by simp [wGd]
theorem wGd_tf {t : Nat} {A B : Env → Prop} : wGd (.b true) e t false A B = B ((t, .b true) :: e) := by simp [wGd]
theorem wGd_ft {t : Nat} {A B : Env → Prop} : wGd (.b false) e t true A B = B ((t, .b false) :: e) := by simp [wGd]
theorem wGd_ff {t : Nat} {A B : Env → Prop} : wGd (.b false) e t false A B = A ((t, .b false) :: e) := by simp [wGd]
theorem wGd_dect {p : Prop} [Decidable p] {t : Nat} {A B : Env → Prop} : wGd (.b (decide p)) e t true A B = ((p → A ((t, .b true) :: e)) ∧ (¬ p → B ((t, .b false) :: e))) := by simp [wGd]
theorem wGd_decf {p : Prop} [Decidable p] {t : Nat} {A B : Env → Prop} : wGd (.b (decide p)) e t false A B = ((¬ p → A ((t, .b false) :: e)) ∧ (p → B ((t, .b true) :: e))) := by simp [wGd]
theorem wGd_ud {t : Nat} {b : Bool} {A B : Env → Prop} : wGd .ud e t b A B = B e := (rfl)
def flK (O : Orc) (r : List (ROp × Bool)) (e : Env) (dst : Option Nat) (k : Env → Mem → Prop) : AV → Mem → Prop := fun x S => wFl O r (putE e dst x) S k
def flM (O : Orc) (r : List (ROp × Bool)) (e : Env) (dst : Option Nat) (k : Env → Mem → Prop) (S : Mem) : AV → Mem → Prop := fun x S' => S <+: S' ∧ wFl O r (putE e dst x) S' k
def fA (O : Orc) (io : IOp) (S : Mem) (r : List (ROp × Bool)) (dst : Option Nat) (k : Env → Mem → Prop) : Env → Prop := fun e => optK (evOp O e S io) (flK O r e dst k)
def fAM (O : Orc) (io : IOp) (S : Mem) (r : List (ROp × Bool)) (dst : Option Nat) (k : Env → Mem → Prop) : Env → Prop := fun e => optK (evOp O e S io) (flM O r e dst k S)
def fB (O : Orc) (r : List (ROp × Bool)) (S : Mem) (dst : Option Nat) (k : Env → Mem → Prop) : Env → Prop := fun e => wFl O r (putE e dst .ud) S k
theorem wFl_nil : wFl O [] e S k' = k' e S := (rfl)
theorem wFl_op {dst : Option Nat} {io : IOp} {r : List (ROp × Bool)} : wFl O ((⟨dst, none, io⟩, false) :: r) e S k' = optK (evOp O e S io) (flK O r e dst k') := by
  simp only [wFl]; congr 1; funext x S'; simp [flK]
theorem wFl_m {dst : Option Nat} {io : IOp} {r : List (ROp × Bool)} : wFl O ((⟨dst, none, io⟩, true) :: r) e S k' = optK (evOp O e S io) (flM O r e dst k' S) := by
  simp only [wFl]; congr 1; funext x S'; simp [flM]
theorem wFl_gd {dst : Option Nat} {t : Nat} {b : Bool} {io : IOp} {r : List (ROp × Bool)} : wFl O ((⟨dst, some (t, b), io⟩, false) :: r) e S k' = wGd (e.get t) e t b (fA O io S r dst k') (fB O r S dst k') := by
  simp only [wFl]; congr 1; funext e; simp only [fA]; congr 1; funext x S'; simp [flK]
theorem wFl_gm {dst : Option Nat} {t : Nat} {b : Bool} {io : IOp} {r : List (ROp × Bool)} : wFl O ((⟨dst, some (t, b), io⟩, true) :: r) e S k' = wGd (e.get t) e t b (fAM O io S r dst k') (fB O r S dst k') := by
  simp only [wFl]; congr 1; funext e; simp only [fAM]; congr 1; funext x S'; simp [flM]
theorem flK_some {r : List (ROp × Bool)} {t : Nat} {x : AV} : flK O r e (some t) k' x S = wFl O r ((t, x) :: e) S k' := (rfl)
theorem flK_none {r : List (ROp × Bool)} {x : AV} : flK O r e none k' x S = wFl O r e S k' := (rfl)
theorem flM_some {r : List (ROp × Bool)} {t : Nat} {x : AV} {S' : Mem} : flM O r e (some t) k' S x S' = (S <+: S' ∧ wFl O r ((t, x) :: e) S' k') := (rfl)
theorem flM_none {r : List (ROp × Bool)} {x : AV} {S' : Mem} : flM O r e none k' S x S' = (S <+: S' ∧ wFl O r e S' k') := (rfl)
theorem fA_app {io : IOp} {r : List (ROp × Bool)} {dst : Option Nat} : fA O io S r dst k' e = optK (evOp O e S io) (flK O r e dst k') := (rfl)
theorem fAM_app {io : IOp} {r : List (ROp × Bool)} {dst : Option Nat} : fAM O io S r dst k' e = optK (evOp O e S io) (flM O r e dst k' S) := (rfl)
theorem fB_some {r : List (ROp × Bool)} {t : Nat} : fB O r S (some t) k' e = wFl O r ((t, .ud) :: e) S k' := (rfl)
theorem fB_none {r : List (ROp × Bool)} : fB O r S none k' e = wFl O r e S k' := (rfl)
theorem W_draw' {st : List Stage} {late : List Nat} {l : List (ROp × Bool)} (hk : growsSt late st = true) (hl : flatSt st = l) : W P O S0 rd (.draw st late) e S d Q = wFl O l e S (normK Q d) := by
  have h1 : stOk late st [] = true := by unfold growsSt at hk; simp only [Bool.and_eq_true] at hk; exact hk.1
  simp only [W, hk, if_true, hl, h1, true_and]
theorem W_drawE {st : List Stage} {late : List Nat} (hk : growsSt late st = false) : W P O S0 rd (.draw st late) e S d Q = drawK (evDraw O st late e S) (normK Q d) := by
  simp only [W, hk, Bool.false_eq_true, if_false]
theorem pre_same : (S <+: S) = True := by simp
theorem pre_app {T : Mem} : (S <+: S ++ T) = True := by simp

/-! ### One operation -/
theorem evOp_op {io : IO'} : evOp O e S (.op io) = evIO e S io := (rfl)
theorem evOp_call {f : FuncId} {xs : List X} : evOp O e S (.call f xs) = O.fn f (xs.map (·.ev e)) S := (rfl)
theorem evOp_callv {x : X} {xs : List X} : evOp O e S (.callv x xs) = (match x.ev e with | .f (.func f) a b => O.fn f (a ++ xs.map (·.ev e) ++ b) S | .y i => O.y i (xs.map (·.ev e)) S | _ => none) := (rfl)
theorem optK_some {x : AV} : optK (some (x, S)) k = k x S := (rfl)
theorem optV_some {x : AV} : optV (some x) S k = k x S := (rfl)
theorem optM_some {x : AV} : optM (some S) x k = k x S := (rfl)
theorem xev_t {t : Nat} : X.ev e (.t t) = e.get t := (rfl)
theorem xev_c {v : AV} : X.ev e (.c v) = v := (rfl)
theorem get_ite {t t' : Nat} {x : AV} : Env.get ((t, x) :: e) t' = if t = t' then x else e.get t' := by
  by_cases h : t = t'
  · subst h; rw [get_put_same, if_pos rfl]
  · rw [get_put_ne _ _ h, if_neg h]
theorem get_nil {t : Nat} : Env.get [] t = .u := (rfl)

theorem oK (o : Option AV) : optK (match o with | some y => some (y, S) | none => none) k = optV o S k := by cases o <;> rfl
theorem oi_mv {x : X} : optK (evIO e S (.mv x)) k = k (x.ev e) S := (rfl)
def pickV (c a b : AV) : Option AV := match c with
  | .b true => some a
  | .b false => some b
  | _ => none
theorem oi_pick {c a b : X} : optK (evIO e S (.pick c a b)) k = optV (pickV (c.ev e) (a.ev e) (b.ev e)) S k := by
  simp only [evIO, pickV]
  generalize c.ev e = y
  cases y with
  | b x => cases x <;> rfl
  | _ => rfl
theorem pickV_t {a b : AV} : pickV (.b true) a b = some a := (rfl)
theorem pickV_f {a b : AV} : pickV (.b false) a b = some b := (rfl)
theorem oi_fresh {z : List AV} : optK (evIO e S (.fresh z)) k = k (.p S.length 0 0) (S ++ [.cells z 0 none true]) := (rfl)
def boxV (S : Mem) (c : Option (List AV)) : Option (AV × Mem) := match c with
  | some cs => some (.p S.length 0 0, S ++ [.cells cs 0 none true])
  | none => none
theorem oi_box {x : X} : optK (evIO e S (.box x)) k = optK (boxV S (x.ev e).cells) k := (rfl)
theorem boxV_some {cs : List AV} : boxV S (some cs) = some (.p S.length 0 0, S ++ [.cells cs 0 none true]) := (rfl)
def agV (o : Option (List AV)) : Option AV := o.map .ag
theorem agV_some {cs : List AV} : agV (some cs) = some (.ag cs) := (rfl)
theorem oi_build {z : List AV} {ps : List (Nat × Nat × X)} : optK (evIO e S (.build z ps)) k = optV (agV (fillV z (evParts e ps))) S k := by
  simp only [evIO]; cases fillV z (evParts e ps) <;> rfl
def bsV (S : Mem) (len : Nat) (o : Option (List AV)) : Option (AV × Mem) := match o with
  | some r => some (.sl S.length 0 0 len len true, S ++ [.cells r 0 none true])
  | none => none
theorem bsV_some {len : Nat} {r : List AV} : bsV S len (some r) = some (.sl S.length 0 0 len len true, S ++ [.cells r 0 none true]) := (rfl)
theorem oi_bslice {z : List AV} {len : Nat} {ps : List (Nat × Nat × X)} : optK (evIO e S (.bslice z len ps)) k = optK (bsV S len (fillV (zerosV z len) (evParts e ps))) k := (rfl)
theorem oi_load {n : Option Nat} {x : X} : optK (evIO e S (.load n x)) k = optV (ldCells S n (x.ev e)) S k := oK _
theorem oi_store {n : Nat} {x y : X} : optK (evIO e S (.store n x y)) k = optM (stCells S n (x.ev e) (y.ev e)) .u k := by
  simp only [evIO]; cases stCells S n (x.ev e) (y.ev e) <;> rfl
theorem oi_nilck {x : X} : optK (evIO e S (.nilck x)) k = optV (nilV (x.ev e)) S k := oK _
theorem oi_bin {tk : TK} {c : Bool} {op : BinOp} {x y : X} : optK (evIO e S (.bin tk c op x y)) k = optV (binV tk c op (x.ev e) (y.ev e)) S k := oK _
theorem oi_un {op : UnOp} {x : X} : optK (evIO e S (.un op x)) k = optV (unV op (x.ev e)) S k := oK _
theorem oi_toInt {q : IntKind} {x : X} : optK (evIO e S (.toInt q x)) k = optV (toIntV q (x.ev e)) S k := oK _
theorem oi_faddr {o : Nat} {x : X} : optK (evIO e S (.faddr o x)) k = optV (faddrV o (x.ev e)) S k := oK _
theorem oi_fld {o : Nat} {n : Option Nat} {x : X} : optK (evIO e S (.fld o n x)) k = optV (fldV o n (x.ev e)) S k := oK _
theorem oi_iaddr {a : Option Nat} {s : Nat} {x y : X} : optK (evIO e S (.iaddr a s x y)) k = optV (iaddrV a s (x.ev e) (y.ev e)) S k := oK _
theorem oi_ixa {l s : Nat} {m : Option Nat} {x y : X} : optK (evIO e S (.ixa l s m x y)) k = optV (ixaV l s m (x.ev e) (y.ev e)) S k := oK _
theorem oi_ixs {x y : X} : optK (evIO e S (.ixs x y)) k = optV (ixsV (x.ev e) (y.ev e)) S k := oK _
theorem oi_slice {s : Nat} {x : X} {a b c : Option X} : optK (evIO e S (.slice s x a b c)) k = optV (sliceV S s (x.ev e) (a.map (·.ev e)) (b.map (·.ev e)) (c.map (·.ev e))) S k := oK _
theorem oi_sla {n s : Nat} {x : X} {a b c : Option X} : optK (evIO e S (.sla n s x a b c)) k = optV (slaV n s (x.ev e) (a.map (·.ev e)) (b.map (·.ev e)) (c.map (·.ev e))) S k := oK _
theorem oi_sls {x : X} {a b : Option X} : optK (evIO e S (.sls x a b)) k = optV (slsV (x.ev e) (a.map (·.ev e)) (b.map (·.ev e))) S k := oK _
theorem oi_ext {x : X} {n : Nat} : optK (evIO e S (.ext x n)) k = optV (extV n (x.ev e)) S k := oK _
theorem oi_mkf {fn : Fn} {a b : List X} : optK (evIO e S (.mkf fn a b)) k = k (.f fn (a.map (·.ev e)) (b.map (·.ev e))) S := (rfl)
def mksV (S : Mem) (z : List AV) (bytes : Nat) (l c : Option Nat) : Option (AV × Mem) := match l, c with
  | some l, some c => if l ≤ c ∧ bytes * c ≤ 140737488355328 ∧ c ≤ 140737488355328 then some (.sl S.length 0 0 l c true, S ++ [.cells (zerosV z c) 0 none true]) else none
  | _, _ => none
theorem oi_mks {z : List AV} {b : Nat} {l c : X} : optK (evIO e S (.mks z b l c)) k = optK (mksV S z b (natV (l.ev e)) (natV (c.ev e))) k := (rfl)
theorem mksV_some {z : List AV} {b l c : Nat} : mksV S z b (some l) (some c) = if l ≤ c ∧ b * c ≤ 140737488355328 ∧ c ≤ 140737488355328 then some (.sl S.length 0 0 l c true, S ++ [.cells (zerosV z c) 0 none true]) else none := (rfl)
def lenQ (q : LK) (S : Mem) (x : AV) : Option AV := if lenOk q x then (lenV S x).map fun n => .i .i64 n else none
theorem oi_len {q : LK} {x : X} : optK (evIO e S (.len q x)) k = optV (lenQ q S (x.ev e)) S k := by
  simp only [evIO, lenQ]; split
  · cases lenV S (x.ev e) <;> rfl
  · rfl
theorem lenQ_s {l : List UInt8} : lenQ .str S (.s l) = some (.i .i64 l.length) := (rfl)
theorem lenQ_sn : lenQ .slice S .sn = some (.i .i64 0) := (rfl)
theorem lenQ_se : lenQ .slice S .se = some (.i .i64 0) := (rfl)
theorem lenQ_sl {i o v l c : Nat} {x : Bool} : lenQ .slice S (.sl i o v l c x) = some (.i .i64 l) := (rfl)
def copyQ (o : Option (Nat × Mem)) : Option (AV × Mem) := o.map fun p => (.i .i64 p.1, p.2)
theorem copyQ_some {n : Nat} : copyQ (some (n, S)) = some (.i .i64 n, S) := (rfl)
theorem oi_copy {s : Nat} {x y : X} : optK (evIO e S (.copy s x y)) k = optK (copyQ (copyV S s (x.ev e) (y.ev e))) k := by
  simp only [evIO, copyQ]; cases copyV S s (x.ev e) (y.ev e) <;> rfl
def appQ (S : Mem) (s b : Nat) (x : AV) (o : Option (List AV × Nat)) : Option (AV × Mem) := match o with
  | some p => appV S s b x p.1 p.2
  | none => none
theorem oi_app {s b : Nat} {x y : X} : optK (evIO e S (.app s b x y)) k = optK (appQ S s b (x.ev e) (srcV S s (y.ev e))) k := by
  simp only [evIO, appQ]; cases srcV S s (y.ev e) <;> rfl
theorem appQ_some {s b n : Nat} {x : AV} {cs : List AV} : appQ S s b x (some (cs, n)) = appV S s b x cs n := (rfl)
def mmQ (m : Bool) (xs : List AV) : Option AV := match xs with
  | x :: r => mmV m x r
  | [] => none
theorem oi_mm {m : Bool} {xs : List X} : optK (evIO e S (.mm m xs)) k = optV (mmQ m (xs.map (·.ev e))) S k := by
  simp only [evIO, mmQ]
  generalize xs.map (·.ev e) = l
  cases l with
  | nil => rfl
  | cons x r => exact oK _
theorem mmQ_max {q : IntKind} {a b : Int} : mmQ true [.i q a, .i q b] = some (.i q (max a b)) := by
  simp only [mmQ, mmV, if_true]; congr 2; rw [Int.max_def]; split <;> split <;> omega
theorem mmQ_min {q : IntKind} {a b : Int} : mmQ false [.i q a, .i q b] = some (.i q (min a b)) := by
  simp only [mmQ, mmV, if_true]; congr 2; rw [Int.min_def]; simp; split <;> split <;> omega
theorem oi_eqag {n : Bool} {ks : List TK} {x y : X} : optK (evIO e S (.eqag n ks x y)) k = optV (eqAgV n ks (x.ev e) (y.ev e)) S k := oK _
def sameV (x : AV) : Option AV := match x with
  | .s l => some (.s l)
  | _ => none
theorem oi_same {x : X} : optK (evIO e S (.same x)) k = optV (sameV (x.ev e)) S k := by
  simp only [evIO, sameV]
  generalize x.ev e = y
  cases y <;> rfl
theorem sameV_s {l : List UInt8} : sameV (.s l) = some (.s l) := (rfl)
theorem oi_toStr {x : X} : optK (evIO e S (.toStr x)) k = optV (toStrV S (x.ev e)) S k := oK _
def toBytesV (S : Mem) (x : AV) : Option (AV × Mem) := match x with
  | .s l => some (if l.length = 0 then .se else .sl S.length 0 0 l.length l.length false, S ++ [.cells (l.map fun b => .i .u8 b.toNat) 0 (some 1) true])
  | _ => none
theorem oi_toBytes {x : X} : optK (evIO e S (.toBytes x)) k = optK (toBytesV S (x.ev e)) k := by
  simp only [evIO, toBytesV]
  generalize x.ev e = y
  cases y <;> rfl
theorem oi_clear {z : List AV} {x : X} : optK (evIO e S (.clear z x)) k = optK (clearV S z (x.ev e)) k := (rfl)
def ixbyteV (x y : AV) : Option AV := match x, y with
  | .s l, .i .u8 c => some (.i .i64 (Lib.indexByte l c.toNat.toUInt8))
  | _, _ => none
theorem oi_ixbyte {x y : X} : optK (evIO e S (.ixbyte x y)) k = optV (ixbyteV (x.ev e) (y.ev e)) S k := by
  simp only [evIO, ixbyteV]
  generalize x.ev e = a
  generalize y.ev e = b
  cases a <;> first | rfl | skip
  all_goals (cases b <;> first | rfl | skip)
  all_goals (rename_i k n; cases k <;> rfl)
theorem ixbyteV_s {l : List UInt8} {c : Int} : ixbyteV (.s l) (.i .u8 c) = some (.i .i64 (Lib.indexByte l c.toNat.toUInt8)) := (rfl)
def ovlV (S : Mem) (x y : AV) : Option AV := match x, y with
  | .sl i o v _ _ _, .sl j _ v2 _ _ _ => if i ≠ j ∧ apartB (S[i]?) (S[j]?) o v v2 = true then some (.b false) else none
  | _, _ => none
theorem oi_ovl {x y : X} : optK (evIO e S (.ovl x y)) k = optV (ovlV S (x.ev e) (y.ev e)) S k := by
  simp only [evIO, ovlV]
  generalize x.ev e = a
  generalize y.ev e = b
  cases a <;> first | rfl | skip
  all_goals (cases b <;> first | rfl | skip)
  rename_i i o v l c ex j o2 v2 l2 c2 ex2
  by_cases hc : i ≠ j ∧ apartB (S[i]?) (S[j]?) o v v2 = true
  · simp only [if_pos hc]; rfl
  · simp only [if_neg hc]; rfl
def mknoV (S : Mem) (x : AV) : Option (AV × Mem) := match x with
  | .i .i64 z => if 0 < z ∧ z ≤ 140737488355328 then some (.sl S.length 0 0 z.toNat z.toNat false, S ++ [.cells (List.replicate z.toNat .u) 0 (some 1) true]) else none
  | _ => none
theorem oi_mkno {x : X} : optK (evIO e S (.mkno x)) k = optK (mknoV S (x.ev e)) k := by
  simp only [evIO, mknoV]
  generalize x.ev e = y
  cases y <;> first | rfl | skip
  all_goals (rename_i q z; cases q <;> rfl)
def capQ (x : AV) : Option AV := (capV x).map fun n => .i .i64 n
theorem oi_cap {x : X} : optK (evIO e S (.cap x)) k = optV (capQ (x.ev e)) S k := by
  simp only [evIO, capQ]; cases capV (x.ev e) <;> rfl
def mkmapV (S : Mem) (h : Option AV) : Option (AV × Mem) := match h with
  | none => some (.m S.length, S ++ [.map [] 0])
  | some (.i _ _) => some (.m S.length, S ++ [.map [] 0])
  | _ => none
theorem oi_mkmap {h : Option X} : optK (evIO e S (.mkmap h)) k = optK (mkmapV S (h.map (·.ev e))) k := by
  simp only [evIO, mkmapV]
  generalize h.map (·.ev e) = y
  cases y with
  | none => rfl
  | some y => cases y <;> rfl
theorem mkmapV_none : mkmapV S none = some (.m S.length, S ++ [.map [] 0]) := (rfl)
theorem mkmapV_some {q : IntKind} {n : Int} : mkmapV S (some (.i q n)) = some (.m S.length, S ++ [.map [] 0]) := (rfl)
theorem oi_mlook {ag : Bool} {ks : List TK} {z : AV} {ok : Bool} {x y : X} : optK (evIO e S (.mlook ag ks z ok x y)) k = optV (mlookV S ag ks z ok (x.ev e) (y.ev e)) S k := oK _
theorem oi_mentry {ag : Bool} {ks : List TK} {z : AV} {x y : X} : optK (evIO e S (.mentry ag ks z x y)) k = optK (mentryV S ag ks z (x.ev e) (y.ev e)) k := (rfl)
theorem oi_mstore {x s v : X} : optK (evIO e S (.mstore x s v)) k = optM (mstoreV S (x.ev e) (s.ev e) (v.ev e)) .u k := by
  simp only [evIO]; cases mstoreV S (x.ev e) (s.ev e) (v.ev e) <;> rfl
theorem oi_mupd {ag : Bool} {ks : List TK} {x y v : X} : optK (evIO e S (.mupd ag ks x y v)) k = optM (mupdV S ag ks (x.ev e) (y.ev e) (v.ev e)) .u k := by
  simp only [evIO]; cases mupdV S ag ks (x.ev e) (y.ev e) (v.ev e) <;> rfl
theorem oi_mdel {ag : Bool} {ks : List TK} {x y : X} : optK (evIO e S (.mdel ag ks x y)) k = optM (mdelV S ag ks (x.ev e) (y.ev e)) (.tu []) k := by
  simp only [evIO]; cases mdelV S ag ks (x.ev e) (y.ev e) <;> rfl

/-! ### Values -/
theorem bin_i {cst : Bool} {op : BinOp} {q : IntKind} {a b : Int} (h : isShift op = false) : binV .int cst op (.i q a) (.i q b) = intV op q a b := by simp [binV, h]
theorem bin_add {cst : Bool} {q : IntKind} {a b : Int} : binV .int cst .add (.i q a) (.i q b) = some (.i q (wrapV q (a + b))) := bin_i rfl
theorem bin_sub {cst : Bool} {q : IntKind} {a b : Int} : binV .int cst .sub (.i q a) (.i q b) = some (.i q (wrapV q (a - b))) := bin_i rfl
theorem bin_mul {cst : Bool} {q : IntKind} {a b : Int} : binV .int cst .mul (.i q a) (.i q b) = some (.i q (wrapV q (a * b))) := bin_i rfl
theorem bin_quo {cst : Bool} {q : IntKind} {a b : Int} (h : b ≠ 0) : binV .int cst .quo (.i q a) (.i q b) = some (.i q (wrapV q (a.tdiv b))) := by rw [bin_i rfl]; simp [intV, h]
theorem bin_rem {cst : Bool} {q : IntKind} {a b : Int} (h : b ≠ 0) : binV .int cst .rem (.i q a) (.i q b) = some (.i q (a.tmod b)) := by rw [bin_i rfl]; simp [intV, h]
theorem bin_rem_pos {cst : Bool} {q : IntKind} {a b : Int} (ha : 0 ≤ a) (h : 0 < b) : binV .int cst .rem (.i q a) (.i q b) = some (.i q (a % b)) := by
  rw [bin_rem (by omega), Int.tmod_eq_emod_of_nonneg ha]
theorem bin_quo_pos {cst : Bool} {q : IntKind} {a b : Int} (ha : 0 ≤ a) (h : 0 < b) : binV .int cst .quo (.i q a) (.i q b) = some (.i q (wrapV q (a / b))) := by
  rw [bin_quo (by omega), Int.tdiv_eq_ediv_of_nonneg ha]
theorem bin_eql {cst : Bool} {q : IntKind} {a b : Int} : binV .int cst .eql (.i q a) (.i q b) = some (.b (decide (a = b))) := by
  rw [bin_i rfl]; simp only [intV]; congr 2
theorem bin_neq {cst : Bool} {q : IntKind} {a b : Int} : binV .int cst .neq (.i q a) (.i q b) = some (.b (decide (a ≠ b))) := by
  rw [bin_i rfl]; simp only [intV]; congr 2; simp [bne]; rfl
theorem bin_lss {cst : Bool} {q : IntKind} {a b : Int} : binV .int cst .lss (.i q a) (.i q b) = some (.b (decide (a < b))) := bin_i rfl
theorem bin_leq {cst : Bool} {q : IntKind} {a b : Int} : binV .int cst .leq (.i q a) (.i q b) = some (.b (decide (a ≤ b))) := bin_i rfl
theorem bin_gtr {cst : Bool} {q : IntKind} {a b : Int} : binV .int cst .gtr (.i q a) (.i q b) = some (.b (decide (b < a))) := bin_i rfl
theorem bin_geq {cst : Bool} {q : IntKind} {a b : Int} : binV .int cst .geq (.i q a) (.i q b) = some (.b (decide (b ≤ a))) := bin_i rfl
theorem bin_shl {cst : Bool} {q q' : IntKind} {a b : Int} : binV .int cst .shl (.i q a) (.i q' b) = shiftV .shl q a b := by simp [binV, isShift]
theorem bin_shr {cst : Bool} {q q' : IntKind} {a b : Int} : binV .int cst .shr (.i q a) (.i q' b) = shiftV .shr q a b := by simp [binV, isShift]
theorem bin_beql {cst : Bool} {a b : Bool} : binV .bool cst .eql (.b a) (.b b) = some (.b (decide (a = b))) := by
  simp only [binV, eqOp]; congr 2
theorem bin_bneq {cst : Bool} {a b : Bool} : binV .bool cst .neq (.b a) (.b b) = some (.b (decide (a ≠ b))) := by
  simp only [binV, eqOp]; congr 2; cases a <;> cases b <;> rfl
theorem bin_seql {cst : Bool} {a b : List UInt8} : binV .str cst .eql (.s a) (.s b) = some (.b (decide (a = b))) := by
  have h : (a == b) = decide (a = b) := by rw [Bool.eq_iff_iff]; simp
  simp only [binV, strV, h]
theorem bin_sneq {cst : Bool} {a b : List UInt8} : binV .str cst .neq (.s a) (.s b) = some (.b (decide (a ≠ b))) := by
  have h : (a == b) = decide (a = b) := by rw [Bool.eq_iff_iff]; simp
  simp only [binV, strV, h, ne_eq, decide_not]
theorem un_not_true : unV .not (.b true) = some (.b false) := (rfl)
theorem un_not_false : unV .not (.b false) = some (.b true) := (rfl)
theorem un_not_dec {p : Prop} [Decidable p] : unV .not (.b (decide p)) = some (.b (decide (¬ p))) := by simp [unV]
theorem un_neg {q : IntKind} {n : Int} : unV .neg (.i q n) = some (.i q (wrapV q (0 - n))) := by rw [unV]; congr 2; exact wrapV_eq q _
theorem nilV_p {i o v : Nat} : nilV (.p i o v) = some (.p i o v) := (rfl)
theorem nilV_f {f : FuncId} {a b : List AV} : nilV (.f (.func f) a b) = some (.f (.func f) a b) := (rfl)
theorem nilV_y {i : Nat} : nilV (.y i) = some (.y i) := (rfl)
theorem toInt_i {q q' : IntKind} {n : Int} : toIntV q (.i q' n) = some (.i q (wrapV q n)) := by rw [toIntV]; congr 2; exact wrapV_eq q n
theorem faddr_p {o i o' v : Nat} : faddrV o (.p i o' v) = some (.p i (o' + o) v) := (rfl)
theorem fld_ag {o : Nat} {n : Option Nat} {cs : List AV} : fldV o n (.ag cs) = partV o n cs := (rfl)
theorem part_none {o : Nat} {cs : List AV} : partV o none cs = cs[o]? := (rfl)
theorem part_some {o n : Nat} {cs : List AV} : partV o (some n) cs = if o + n ≤ cs.length then some (.ag ((cs.drop o).take n)) else none := (rfl)
theorem ext_tu {n : Nat} {cs : List AV} : extV n (.tu cs) = cs[n]? := (rfl)
theorem natV_i {q : IntKind} {n : Int} (h : 0 ≤ n) : natV (.i q n) = some n.toNat := by simp [natV, h]
theorem natV_nat {q : IntKind} {n : Nat} : natV (.i q (n : Int)) = some n := by simp [natV]
theorem cells_i {q : IntKind} {n : Int} : AV.cells (.i q n) = some [.i q n] := (rfl)
theorem cells_b {x : Bool} : AV.cells (.b x) = some [.b x] := (rfl)
theorem cells_s {l : List UInt8} : AV.cells (.s l) = some [.s l] := (rfl)
theorem cells_p {i o v : Nat} : AV.cells (.p i o v) = some [.p i o v] := (rfl)
theorem cells_pn : AV.cells .pn = some [.pn] := (rfl)
theorem cells_sn : AV.cells .sn = some [.sn] := (rfl)
theorem cells_se : AV.cells .se = some [.se] := (rfl)
theorem cells_sl {i o v l c : Nat} {x : Bool} : AV.cells (.sl i o v l c x) = some [.sl i o v l c x] := (rfl)
theorem cells_ag {cs : List AV} : AV.cells (.ag cs) = some cs := (rfl)
theorem cells_f {fn : Fn} {a b : List AV} : AV.cells (.f fn a b) = some [.f fn a b] := (rfl)
theorem cells_m {i : Nat} : AV.cells (.m i) = some [.m i] := (rfl)
theorem cells_mn : AV.cells .mn = some [.mn] := (rfl)
theorem one_i {q : IntKind} {n : Int} : AV.one (.i q n) = true := (rfl)
theorem one_b {x : Bool} : AV.one (.b x) = true := (rfl)
theorem one_s {l : List UInt8} : AV.one (.s l) = true := (rfl)
theorem one_p {i o v : Nat} : AV.one (.p i o v) = true := (rfl)
theorem one_pn : AV.one .pn = true := (rfl)
theorem one_sn : AV.one .sn = true := (rfl)
theorem one_se : AV.one .se = true := (rfl)
theorem one_sl {i o v l c : Nat} {x : Bool} : AV.one (.sl i o v l c x) = true := (rfl)
theorem one_f {fn : Fn} {a b : List AV} : AV.one (.f fn a b) = true := (rfl)
theorem one_m {i : Nat} : AV.one (.m i) = true := (rfl)
theorem one_mn : AV.one .mn = true := (rfl)

/-! ### Memory -/
def cellB (o : Option Blk) (off v : Nat) : Option AV := match o with
  | some (.cells cs ver _ _) => if ver = v then cs[off]? else none
  | _ => none
def rowB (o : Option Blk) (off v n : Nat) : Option (List AV) := match o with
  | some (.cells cs ver _ _) => if ver = v ∧ off + n ≤ cs.length then some ((cs.drop off).take n) else none
  | _ => none
theorem cellB_some {cs : List AV} {v off : Nat} {op : Option Nat} {r : Bool} : cellB (some (.cells cs v op r)) off v = cs[off]? := by simp [cellB]
theorem rowB_some {cs : List AV} {v off n : Nat} {op : Option Nat} {r : Bool} : rowB (some (.cells cs v op r)) off v n = if off + n ≤ cs.length then some ((cs.drop off).take n) else none := by simp [rowB]
theorem rowAt_B {i o v n : Nat} : rowAt S i o v n = rowB (S[i]?) o v n := by
  unfold rowAt rowB; rfl
theorem ld_one {i o v : Nat} : ldCells S none (.p i o v) = cellB (S[i]?) o v := by
  simp only [ldCells, rowAt_B]
  cases S[i]? with
  | none => rfl
  | some B =>
    cases B with
    | cells cs ver op r =>
      simp only [rowB, cellB]
      by_cases hv : ver = v
      · by_cases h : o < cs.length
        · have e1 : (cs.drop o).take 1 = [cs[o]] := by rw [List.drop_eq_getElem_cons h]; rfl
          rw [if_pos ⟨hv, by omega⟩, if_pos hv, e1, List.getElem?_eq_getElem h]
        · rw [if_neg (by omega), if_pos hv, List.getElem?_eq_none (by omega)]
      · rw [if_neg (by omega), if_neg hv]
    | _ => rfl
theorem ld_row {i o v n : Nat} : ldCells S (some n) (.p i o v) = agV (rowB (S[i]?) o v n) := by simp only [ldCells, rowAt_B, agV]
def stB (S : Mem) (i : Nat) (o : Option Blk) (off v n : Nat) (ys : Option (List AV)) : Option Mem := match o, ys with
  | some (.cells cs ver op true), some ys => if ver = v ∧ ys.length = n ∧ off + n ≤ cs.length ∧ ys.all AV.one = true then some (S.set i (.cells (splice cs off ys) v op true)) else none
  | _, _ => none
theorem st_B {i o v n : Nat} {y : AV} : stCells S n (.p i o v) y = stB S i (S[i]?) o v n y.cells := by
  unfold stCells stB
  cases y.cells with
  | none => cases S[i]? with
    | none => rfl
    | some B => cases B with
      | cells cs ver op r => cases r <;> rfl
      | _ => rfl
  | some ys =>
    dsimp only
    cases S[i]? with
    | none => rfl
    | some B => cases B with
      | cells cs ver op r => cases r <;> rfl
      | _ => rfl
theorem stB_some {i off v n : Nat} {cs ys : List AV} {op : Option Nat} : stB S i (some (.cells cs v op true)) off v n (some ys) = if ys.length = n ∧ off + n ≤ cs.length ∧ ys.all AV.one = true then some (S.set i (.cells (splice cs off ys) v op true)) else none := by simp [stB]

theorem at_app {L : Mem} {n : Nat} : (S ++ L)[S.length + n]? = L[n]? := by rw [List.getElem?_append_right (by omega)]; congr 1; omega
theorem at_app0 {L : Mem} : (S ++ L)[S.length]? = L[0]? := at_app (n := 0)
theorem set_app {L : Mem} {n : Nat} {B : Blk} : (S ++ L).set (S.length + n) B = S ++ L.set n B := by
  rw [List.set_append_right _ _ (by omega)]; congr 2; omega
theorem set_app0 {L : Mem} {B : Blk} : (S ++ L).set S.length B = S ++ L.set 0 B := set_app (n := 0)
theorem at_old {L : Mem} {i : Nat} {B : Blk} (h : S[i]? = some B) : (S ++ L)[i]? = some B := grow_get h
theorem retK_ret {rs : List IR} {R : AV → Mem → Prop} {S1 : Mem} {xs : List AV} (h : evResults e S1 rs = some xs) (hR : R (resV xs) S1) : retK S0 rs R .ret e S1 [] := ⟨rfl, S1, xs, rfl, h, hR⟩
def resQ (o : Option (List AV)) (S : Mem) (R : AV → Mem → Prop) : Prop := match o with
  | some xs => R (resV xs) S
  | none => False
theorem ret_eq {rs : List IR} {R : AV → Mem → Prop} {S1 : Mem} : retK S0 rs R .ret e S1 [] = resQ (evResults e S1 rs) S1 R := by
  apply propext
  constructor
  · rintro ⟨_, S2, xs, h1, h2, h3⟩
    simp only [evLeave, Option.some.injEq] at h1
    subst h1
    simp only [resQ, h2]; exact h3
  · intro h
    unfold resQ at h
    split at h
    · rename_i xs hx; exact retK_ret hx h
    · exact h.elim
theorem ret_eq' {rs : List IR} {R : AV → Mem → Prop} {S1 : Mem} : retK S0 rs R .normal e S1 [] = resQ (evResults e S1 rs) S1 R := by
  rw [← ret_eq (S0 := S0)]; rfl
theorem resQ_some {xs : List AV} {R : AV → Mem → Prop} : resQ (some xs) S R = R (resV xs) S := (rfl)
def consQ (x : Option AV) (xs : Option (List AV)) : Option (List AV) := match x, xs with
  | some x, some xs => some (x :: xs)
  | _, _ => none
theorem res_nil : evResults e S [] = some [] := (rfl)
theorem res_cons {r : IR} {rs : List IR} : evResults e S (r :: rs) = consQ (evRes e S r) (evResults e S rs) := by
  simp only [evResults, consQ]
  cases evRes e S r <;> cases evResults e S rs <;> rfl
theorem consQ_some {x : AV} {xs : List AV} : consQ (some x) (some xs) = some (x :: xs) := (rfl)
theorem res_tmp {t : Nat} : evRes e S (.tmp t) = some (e.get t) := (rfl)
theorem res_cell {t : Nat} {n : Option Nat} : evRes e S (.cell t n) = ldCells S n (e.get t) := (rfl)
theorem resV_one {x : AV} : resV [x] = x := (rfl)
theorem resV_two {x y : AV} {r : List AV} : resV (x :: y :: r) = .tu (x :: y :: r) := (rfl)
theorem resV_nil : resV [] = .tu [] := (rfl)
theorem argsE_nil {n : Nat} : argsE n [] = [] := (rfl)
theorem argsE_cons {n : Nat} {x : AV} {r : List AV} : argsE n (x :: r) = (n, x) :: argsE (n + 1) r := (rfl)
theorem keepE_nil : keepE e [] = [] := (rfl)
theorem keepE_cons {t : Nat} {r : List Nat} : keepE e (t :: r) = (t, e.get t) :: keepE e r := (rfl)
theorem orc_cons {f g : FuncId} {s : Spec} {r : List (FuncId × Spec)} : (orcOf ((g, s) :: r)).fn f = if g = f then s else (orcOf r).fn f := by
  funext a S
  simp only [orcOf, List.find?_cons]
  by_cases h : g = f
  · simp [h]
  · have : (g == f) = false := by simpa using h
    simp [h, this]

/-! ### Flat values -/
end

/-- A number that fits is not turned. -/
theorem wrap_i64 {n : Int} (h1 : -9223372036854775808 ≤ n) (h2 : n ≤ 9223372036854775807) : wrapV .i64 n = n := by simp only [wrapV]; omega
theorem wrap_u64 {n : Int} (h1 : 0 ≤ n) (h2 : n ≤ 18446744073709551615) : wrapV .u64 n = n := by simp only [wrapV]; omega
theorem wrap_u32 {n : Int} (h1 : 0 ≤ n) (h2 : n ≤ 4294967295) : wrapV .u32 n = n := by simp only [wrapV]; omega
theorem wrap_u8 {n : Int} (h1 : 0 ≤ n) (h2 : n ≤ 255) : wrapV .u8 n = n := by simp only [wrapV]; omega
theorem iaddr_i {l s i o v : Nat} {q : IntKind} {n : Int} (h0 : 0 ≤ n) (h : n.toNat < l) : iaddrV (some l) s (.p i o v) (.i q n) = some (.p i (o + n.toNat * s) v) := by simp [iaddrV, natV_i h0, h]
theorem iaddr_sl_i {s i o v l c : Nat} {x : Bool} {q : IntKind} {n : Int} (h0 : 0 ≤ n) (h : n.toNat < l) : iaddrV none s (.sl i o v l c x) (.i q n) = some (.p i (o + n.toNat * s) v) := by simp [iaddrV, natV_i h0, h]
theorem fillV_nil {z : List AV} : fillV z [] = some z := (rfl)
def fillQ (z : List AV) (off n : Nat) (ys : Option (List AV)) (r : List (Nat × Nat × AV)) : Option (List AV) := match ys with
  | some ys => if ys.length = n ∧ off + n ≤ z.length then fillV (splice z off ys) r else none
  | none => none
theorem fillV_cons {z : List AV} {off n : Nat} {x : AV} {r : List (Nat × Nat × AV)} : fillV z ((off, n, x) :: r) = fillQ z off n x.cells r := (rfl)
theorem fillQ_some {z : List AV} {off n : Nat} {ys : List AV} {r : List (Nat × Nat × AV)} : fillQ z off n (some ys) r = if ys.length = n ∧ off + n ≤ z.length then fillV (splice z off ys) r else none := (rfl)
theorem parts_nil {e : Env} : evParts e [] = [] := (rfl)
theorem parts_cons {e : Env} {a b : Nat} {x : X} {r : List (Nat × Nat × X)} : evParts e ((a, b, x) :: r) = (a, b, x.ev e) :: evParts e r := (rfl)
theorem splice_eq {cs xs : List AV} {o : Nat} : splice cs o xs = cs.take o ++ (xs ++ cs.drop (o + xs.length)) := (rfl)
theorem zerosV_one {z : AV} {n : Nat} : zerosV [z] n = List.replicate n z := by
  simp only [zerosV, List.length_singleton, Nat.mul_one]
  apply List.ext_getElem (by simp)
  intro k h1 h2
  simp [Nat.mod_one]
theorem all_nil {p : AV → Bool} : List.all [] p = true := (rfl)
theorem all_cons {p : AV → Bool} {x : AV} {r : List AV} : List.all (x :: r) p = (p x && List.all r p) := (rfl)
attribute [go_sem] W_skip W_region W_live W_seq W_cond W_block W_exit W_ret W_goto normK_app blockK_exit_same blockK_normal blockK_ret blockK_goto blockK_exit seqK_normal seqK_ret seqK_exit seqK_goto wCond_true wCond_false wCond_dec
  loopK_normal loopK_ret loopK_exit loopK_goto jumpK_normal jumpK_ret jumpK_exit jumpK_goto
  wOps_nil wOps_op wOps_gd opsK_some opsK_none gA_app gB_some gB_none wGd_tt wGd_tf wGd_ft wGd_ff wGd_dect wGd_decf wGd_ud
  wFl_nil wFl_op wFl_m wFl_gd wFl_gm flK_some flK_none flM_some flM_none fA_app fAM_app fB_some fB_none pre_same pre_app Option.toList List.nil_append List.cons_append List.append_nil List.append_assoc List.map_cons List.map_nil true_and and_true
  evOp_op evOp_call evOp_callv optK_some optV_some optM_some xev_t xev_c get_ite get_nil oi_mv oi_pick pickV_t pickV_f oi_fresh oi_box boxV_some oi_build agV_some oi_bslice bsV_some oi_load oi_store oi_nilck oi_bin oi_un oi_toInt oi_faddr oi_fld oi_iaddr oi_ixa oi_ixs oi_slice oi_sla oi_sls oi_ext oi_mkf oi_mks mksV_some oi_len lenQ_s lenQ_sn lenQ_se lenQ_sl oi_copy copyQ_some oi_app appQ_some oi_mm mmQ_max mmQ_min oi_eqag oi_same sameV_s oi_toStr oi_toBytes oi_clear oi_ixbyte ixbyteV_s oi_ovl oi_mkno oi_cap oi_mkmap mkmapV_none mkmapV_some oi_mlook oi_mentry oi_mstore oi_mupd oi_mdel
  bin_add bin_sub bin_mul bin_rem_pos bin_quo_pos wrap_i64 wrap_u64 wrap_u32 wrap_u8 bin_eql bin_neq bin_lss bin_leq bin_gtr bin_geq bin_shl bin_shr bin_beql bin_bneq bin_seql bin_sneq un_not_true un_not_false un_not_dec un_neg nilV_p nilV_f nilV_y toInt_i faddr_p fld_ag part_none part_some ext_tu natV_nat
  cells_i cells_b cells_s cells_p cells_pn cells_sn cells_se cells_sl cells_ag cells_f cells_m cells_mn one_i one_b one_s one_p one_pn one_sn one_se one_sl one_f one_m one_mn
  rowAt_B ld_one ld_row st_B cellB_some rowB_some stB_some at_app at_app0 set_app set_app0 List.getElem?_cons_zero List.getElem?_cons_succ List.set_cons_zero List.set_cons_succ
  fillV_nil fillV_cons fillQ_some parts_nil parts_cons splice_eq zerosV_one all_nil all_cons Bool.and_true Bool.true_and Bool.and_self eq_self List.length_cons List.length_nil List.length_append List.take_zero List.drop_zero List.take_succ_cons List.drop_succ_cons List.take_nil List.drop_nil Nat.zero_add Nat.add_zero
  ret_eq ret_eq' resQ_some res_nil res_cons consQ_some res_tmp res_cell resV_one resV_two resV_nil argsE_nil argsE_cons keepE_nil keepE_cons
end Go.Proofs.YtmocapahlcaapaaGreatDoor

namespace Go.Proofs.YtmocapahlcaapaaGreatDoor
set_option linter.unusedSimpArgs false
set_option linter.unusedVariables false
open Go.RowKit

/-! ### The memory that was there -/
/-- The kinds of cells. -/
inductive CS where
  | int (k : IntKind)
  | bool
  | str
  | slice (e : TypeId)

/-- What a cell holds, if it can be read. -/
def CellIs {H : Type} (enc : TypeId × Value → H) (P : Program) (w : World) : CS → Value → Prop
  | .int k, v => ∃ n, v = .int k n ∧ (Lit.int k n).wf = true
  | .bool, v => ∃ x, v = .bool x
  | .str, v => ∃ s, v = .string s ∧ s.size ≤ maxLen
  | .slice e, v => v = .slice none 0 0 ∨ ∃ a len cap, v = .slice (some a) len cap ∧ len ≤ cap ∧ cap ≤ maxLen ∧
      ∀ i, i < cap → ∃ cs, w.cells? 0 (a.add (i * P.cellsOf e)) (P.cellsOf e) = some cs ∧ ∃ fuel d ps, DataW.trod enc P w 0 (fun _ => true) true fuel e cs = some (d, ps)

def RowIs {H : Type} (enc : TypeId × Value → H) (P : Program) (w : World) (sh : List CS) (cs : List Value) : Prop := cs.length = sh.length ∧ ∀ i (h : i < sh.length) (h' : i < cs.length), CellIs enc P w sh[i] cs[i]

section
variable {H : Type} {enc : TypeId × Value → H} {P : Program} {w : World}

theorem RowIs.append {s1 s2 : List CS} {c1 c2 : List Value} (h1 : RowIs enc P w s1 c1) (h2 : RowIs enc P w s2 c2) : RowIs enc P w (s1 ++ s2) (c1 ++ c2) := by
  refine ⟨by simp [h1.1, h2.1], fun i h h' => ?_⟩
  have hl := h1.1
  by_cases e : i < s1.length
  · rw [List.getElem_append_left e, List.getElem_append_left (by omega)]
    exact h1.2 i e (by omega)
  · rw [List.getElem_append_right (by omega), List.getElem_append_right (by omega)]
    simp only [List.length_append] at h h'
    have := h2.2 (i - s1.length) (by omega) (by omega)
    simpa [hl] using this

/-- A slice reads as a list. -/
def Lst {α : Type} (sz : Nat) (e : α → List AV) (S : Mem) (x : AV) (l : List α) : Prop :=
  (x = .sn ∧ l = []) ∨ (x = .se ∧ l = []) ∨ ∃ i o v len cap ex, x = .sl i o v len cap ex ∧ l.length = len ∧ rowAt S i o v (len * sz) = some (l.flatMap e)

theorem Lst.grow {α : Type} {sz : Nat} {e : α → List AV} {S : Mem} {x : AV} {l : List α} (h : Lst sz e S x l) (T : Mem) : Lst sz e (S ++ T) x l := by
  rcases h with h | h | ⟨i, o, v, len, cap, ex, h1, h2, h3⟩
  · exact .inl h
  · exact .inr (.inl h)
  · exact .inr (.inr ⟨i, o, v, len, cap, ex, h1, h2, rowAt_grow T h3⟩)

end
end Go.Proofs.YtmocapahlcaapaaGreatDoor

namespace Go.Proofs.YtmocapahlcaapaaGreatDoor
set_option linter.unusedSimpArgs false
set_option linter.unusedVariables false
open Go.RowKit

section
variable {P : Program} {O : Orc} {S0 : Mem} {rd : Bool} {e : Env} {S : Mem} {d : List Nat} {Q : Kont}

/-- At most j rounds of a loop. -/
def LW (P : Program) (O : Orc) (S0 : Mem) (rd : Bool) (l : List Nat) (c : ICode) (Q : Kont) : Nat → Env → Mem → List Nat → Prop
  | 0, _, _, _ => False
  | j + 1, e, S, d => W P O S0 rd c (keepE e l) S d (seqK (fun e S d _ => LW P O S0 rd l c Q j e S d) Q)

def lwK (P : Program) (O : Orc) (S0 : Mem) (rd : Bool) (l : List Nat) (c : ICode) (Q : Kont) (j : Nat) : Env → Mem → List Nat → Kont → Prop := fun e S d _ => LW P O S0 rd l c Q j e S d
theorem LW_succ {l : List Nat} {c : ICode} {j : Nat} : LW P O S0 rd l c Q (j + 1) e S d = W P O S0 rd c (keepE e l) S d (seqK (lwK P O S0 rd l c Q j) Q) := (rfl)
theorem lwK_app {l : List Nat} {c : ICode} {j : Nat} {Q' : Kont} : lwK P O S0 rd l c Q j e S d Q' = LW P O S0 rd l c Q j e S d := (rfl)

/-- A value that leads to nothing new, whatever the new numbers. -/
def AV.Flat (n : Nat) (x : AV) : Prop := ∀ g, ren n g x = x
section
variable {n k : Nat} {g : Nat → Option (Nat × Nat)} {L : Mem} {keep : List Nat}
def renP (q : Option (Nat × Nat)) (o v : Nat) : AV := match q with
  | some (j, v') => if v = v' then .p j o 0 else .u
  | none => .u
def renS (q : Option (Nat × Nat)) (o v l c : Nat) (x : Bool) : AV := match q with
  | some (j, v') => if v = v' then .sl j o 0 l c x else .u
  | none => .u
def renM (q : Option (Nat × Nat)) : AV := match q with
  | some (j, v') => if v' = 0 then .m j else .u
  | none => .u
theorem ren_p {o v : Nat} : ren n g (.p (n + k) o v) = renP (g (n + k)) o v := by rw [ren, if_neg (by omega)]; rfl
theorem ren_p0 {o v : Nat} : ren n g (.p n o v) = renP (g n) o v := by rw [ren, if_neg (by omega)]; rfl
theorem ren_sl {o v l c : Nat} {x : Bool} : ren n g (.sl (n + k) o v l c x) = renS (g (n + k)) o v l c x := by rw [ren, if_neg (by omega)]; rfl
theorem ren_sl0 {o v l c : Nat} {x : Bool} : ren n g (.sl n o v l c x) = renS (g n) o v l c x := by rw [ren, if_neg (by omega)]; rfl
theorem ren_m : ren n g (.m (n + k)) = renM (g (n + k)) := by rw [ren, if_neg (by omega)]; rfl
theorem ren_m0 : ren n g (.m n) = renM (g n) := by rw [ren, if_neg (by omega)]; rfl
theorem renP_some {j v' o v : Nat} : renP (some (j, v')) o v = if v = v' then .p j o 0 else .u := rfl
theorem renS_some {j v' o v l c : Nat} {x : Bool} : renS (some (j, v')) o v l c x = if v = v' then .sl j o 0 l c x else .u := rfl
theorem renM_some {j v' : Nat} : renM (some (j, v')) = if v' = 0 then .m j else .u := rfl
def gQ (n : Nat) (p : Option Nat) (B : Option Blk) : Option (Nat × Nat) := match p, B with
  | some p, some B => some (n + p, B.ver)
  | _, _ => none
theorem gKeep_at : gKeep n L keep (n + k) = gQ n (keep.findIdx? (· == k)) (L[k]?) := by
  unfold gKeep gQ
  rw [if_neg (by omega), show n + k - n = k by omega]
  cases keep.findIdx? (· == k) <;> cases L[k]? <;> rfl
theorem gKeep_at0 : gKeep n L keep n = gQ n (keep.findIdx? (· == 0)) (L[0]?) := by
  have := gKeep_at (n := n) (k := 0) (L := L) (keep := keep)
  simpa using this
theorem gQ_some {p : Nat} {B : Blk} : gQ n (some p) (some B) = some (n + p, B.ver) := rfl
theorem ver_cells {cs : List AV} {v : Nat} {o : Option Nat} {r : Bool} : Blk.ver (.cells cs v o r) = v := rfl
theorem ver_map {es : List (AV × AV × Nat)} {c : Nat} : Blk.ver (.map es c) = 0 := rfl
theorem renL_nil : renL n g [] = [] := by rw [renL]
theorem renL_cons {x : AV} {r : List AV} : renL n g (x :: r) = ren n g x :: renL n g r := by rw [renL]
theorem ren_ag {cs : List AV} : ren n g (.ag cs) = .ag (renL n g cs) := by rw [ren]
theorem ren_tu {cs : List AV} : ren n g (.tu cs) = .tu (renL n g cs) := by rw [ren]
theorem ren_i {q : IntKind} {z : Int} : ren n g (.i q z) = .i q z := by rw [ren]
theorem ren_b {z : Bool} : ren n g (.b z) = .b z := by rw [ren]
theorem ren_s {z : List UInt8} : ren n g (.s z) = .s z := by rw [ren]
theorem ren_pn : ren n g .pn = .pn := by rw [ren]
theorem ren_sn : ren n g .sn = .sn := by rw [ren]
theorem ren_se : ren n g .se = .se := by rw [ren]
theorem keepB_nil : keepB n L [] = [] := rfl
theorem keepB_eq : keepB n L keep = keep.map fun k => renB n (gKeep n L keep) 0 (L.getD k (.dfr false)) := rfl
theorem renB_cells {cs : List AV} {v v' : Nat} {o : Option Nat} {r : Bool} : renB n g v' (.cells cs v o r) = .cells (renL n g cs) v' o r := rfl
theorem zerosV_zero {z : List AV} : zerosV z 0 = [] := by simp [zerosV]
theorem zerosV_succ {z : List AV} : zerosV z (n + 1) = z ++ zerosV z n := by
  unfold zerosV
  apply List.ext_getElem (by simp [Nat.add_mul]; omega)
  intro j h1 h2
  simp only [List.length_map, List.length_range] at h1
  have hz : 0 < z.length := by
    rcases Nat.eq_zero_or_pos z.length with e | e
    · rw [e] at h1; simp at h1
    · exact e
  simp only [List.getElem_map, List.getElem_range]
  by_cases hj : j < z.length
  · rw [List.getElem_append_left hj, Nat.mod_eq_of_lt hj]
    simp [List.getD_eq_getElem?_getD, hj]
  · rw [List.getElem_append_right (by omega)]
    simp only [List.getElem_map, List.getElem_range]
    congr 1
    rw [Nat.mod_eq_sub_mod (by omega)]
end

/-! ### Elements of a slice that came in -/
theorem bin_peql_nn {cst : Bool} : binV .ptr cst .eql .pn .pn = some (.b true) := rfl
theorem bin_peql_pn {cst : Bool} {i o v : Nat} : binV .ptr cst .eql (.p i o v) .pn = some (.b false) := rfl
theorem bin_peql_np {cst : Bool} {i o v : Nat} : binV .ptr cst .eql .pn (.p i o v) = some (.b false) := rfl
theorem bin_pneq_nn {cst : Bool} : binV .ptr cst .neq .pn .pn = some (.b false) := rfl
theorem bin_pneq_pn {cst : Bool} {i o v : Nat} : binV .ptr cst .neq (.p i o v) .pn = some (.b true) := rfl
theorem bin_pneq_np {cst : Bool} {i o v : Nat} : binV .ptr cst .neq .pn (.p i o v) = some (.b true) := rfl
theorem bin_sleql_nn {cst : Bool} : binV .slice cst .eql .sn .sn = some (.b true) := rfl
theorem bin_sleql_en {cst : Bool} : binV .slice cst .eql .se .sn = some (.b false) := rfl
theorem bin_sleql_sn {cst : Bool} {i o v l c : Nat} {x : Bool} : binV .slice cst .eql (.sl i o v l c x) .sn = some (.b false) := rfl

end
attribute [go_sem] bin_peql_nn bin_peql_pn bin_peql_np bin_pneq_nn bin_pneq_pn bin_pneq_np bin_sleql_nn bin_sleql_en bin_sleql_sn LW_succ lwK_app ren_p ren_p0 ren_sl ren_sl0 ren_m ren_m0 renP_some renS_some renM_some gKeep_at gKeep_at0 gQ_some ver_cells ver_map renL_nil renL_cons ren_ag ren_tu ren_i ren_b ren_s ren_pn ren_sn ren_se keepB_eq renB_cells
end Go.Proofs.YtmocapahlcaapaaGreatDoor

namespace Go.Proofs.YtmocapahlcaapaaGreatDoor
open Go.RowKit
set_option linter.unusedSimpArgs false
set_option linter.unusedVariables false

section
variable {P : Program}

/-- The evaluator, some functions by their contracts. -/
def evMix (sp : List (FuncId × Spec)) (T : FuncId → Option IFunc) (m : Nat) : Nat → Orc
  | 0 => ⟨fun _ _ _ => none, fun _ _ _ => none⟩
  | n + 1 => ⟨fun f => match sp.find? (fun p => Nat.beq p.1 f) with
    | some p => p.2
    | none => match T f with
      | some F => evFunc (evMix sp T m n) m F
      | none => fun _ _ => none, evRound (evMix sp T m n) m T⟩

theorem evMix_ok (hmix : P.follows .mixedOrders = true) {sp : List (FuncId × Spec)} (hsp : ∀ p ∈ sp, SpecOK P p.1 p.2) {T : FuncId → Option IFunc} (hT : ∀ f F, T f = some F → compFunc P f = some (stripF F)) (m : Nat) : ∀ n, OK P (lamOf P) (evMix sp T m n)
  | 0 => ⟨fun f args S x S' h => by simp [evMix] at h, fun i args S x S' h => by simp [evMix] at h⟩
  | n + 1 => by
    have ih := evMix_ok hmix hsp hT m n
    refine ⟨fun f args S x S' h => ?_, fun i args S x S' h base w0 K w l vs hΛ hy hA hS => round_ok ih hmix hT h base w0 K w l vs hΛ hy hA hS⟩
    cases hq : sp.find? (fun p => Nat.beq p.1 f) with
    | some p =>
      simp only [evMix, hq] at h
      have hp := List.mem_of_find?_eq_some hq
      have he := List.find?_some hq
      have he := Nat.eq_of_beq_eq_true he
      subst he
      exact hsp p hp args S x S' h
    | none =>
      cases hF : T f with
      | none => simp [evMix, hq, hF] at h
      | some F =>
        simp only [evMix, hq, hF] at h
        exact func_ok ih hmix (hT f F hF) h

theorem calls_of_mix (hmix : P.follows .mixedOrders = true) {sp : List (FuncId × Spec)} (hsp : ∀ p ∈ sp, SpecOK P p.1 p.2) {T : FuncId → Option IFunc} (hT : ∀ f F, T f = some F → compFunc P f = some (stripF F)) {m n : Nat} {f : FuncId}
    (hv : isTrue ((evMix sp T m n).fn f [] []) = true) (w : World) (hd : Door w.heap.size w) : Calls P f #[] w fun e w' => e = .returned (.bool true) ∧ Below w.heap.size w w' := by
  have hO := evMix_ok (P := P) hmix hsp (T := T) hT m n
  cases hr : (evMix sp T m n).fn f [] [] with
  | none => rw [hr] at hv; cases hv
  | some p =>
    obtain ⟨x, S'⟩ := p
    rw [hr] at hv
    have hx : x = .b true := by
      unfold isTrue at hv
      split at hv
      · rename_i h; simp only [Option.some.injEq, Prod.mk.injEq] at h; exact h.1
      · cases hv
    subst hx
    refine ((hO.fn _ _ _ _ _ hr).2 ⟨w.heap.size, lamOf P⟩ w _ w #[] rfl ⟨rfl, fun k hk => by simp at hk⟩ (Sim.start _ w hd)).mono fun e w' hp => ?_
    obtain ⟨K', v, rfl, hV, hS, _⟩ := hp
    cases hV
    exact ⟨rfl, hS.below⟩

/-- A call that changes nothing that was there, with whatever arguments. -/
theorem post_of_below {base : Bs} {w0 : World} {K : Ctx} {S : Mem} {w w' : World} {x : AV} {v : Value} (hS : Sim base w0 K S w) (hb : Below w.heap.size w w') (hv : VR K S x v) : Post base w0 K S w x S (.returned v) w' := by
  obtain ⟨h1, h2, h3, h4, h5⟩ := hb
  have hst : Stp K S w K S w' := ⟨.refl K S, h1, h2, h3, h4, fun b hb _ => h5 b hb, fun _ B' h => .inl ⟨B', h, id, rfl⟩⟩
  exact ⟨K, v, rfl, hv, ⟨fun i B hB => (hS.blk i B hB).mono (.refl K S) rfl rfl (h5 _ (hS.blk i B hB).lt), hS.inj, hS.step_below hst, Nat.le_trans hS.hb h4, hS.door⟩, hst⟩

/-! ### strings.Join -/
def strsOf : List AV → Option (List (List UInt8))
  | [] => some []
  | .s l :: r => (strsOf r).map (l :: ·)
  | _ => none
def joinS : Spec := fun args S => match args with
  | [.sl i o v len cap ex, .s sep] => match rowAt S i o v len with
    | some xs => match strsOf xs with
      | some ls => if (Lib.join ls sep).length ≤ 140737488355328 ∧ len ≤ 140737488355328 ∧ 0 < len then some (.s (Lib.join ls sep), S) else none
      | none => none
    | none => none
  | _ => none

theorem strsOf_ok : ∀ (xs : List AV) (ls : List (List UInt8)), strsOf xs = some ls → xs = ls.map .s
  | [], ls, h => by simp only [strsOf, Option.some.injEq] at h; subst h; rfl
  | x :: r, ls, h => by
    cases x <;> simp only [strsOf, reduceCtorEq] at h
    obtain ⟨l, hl, rfl⟩ := Option.map_eq_some_iff.1 h
    rw [strsOf_ok r l hl]; rfl

theorem joinS_ok {f : FuncId} (hen : enterable P f = true)
    (hJ : ∀ (bk o c : Nat) (xs : List ByteArray) (sep : ByteArray) (w : World), (∀ (j : Nat) x, xs[j]? = some x → w.cell? ⟨bk, o + j, none⟩ = some (.string x)) → bk < w.heap.size → xs.length ≤ 140737488355328 → xs.length ≤ c →
      (Lib.join (xs.map (·.data.toList)) sep.data.toList).length ≤ 140737488355328 → Calls P f #[.slice (some ⟨bk, o, none⟩) xs.length c, .string sep] w fun e w' => e = .returned (.string ⟨(Lib.join (xs.map (·.data.toList)) sep.data.toList).toArray⟩) ∧ Below w.heap.size w w') : SpecOK P f joinS := by
  intro args S x S' h
  unfold joinS at h
  split at h
  · rename_i i o v len cap ex sep
    split at h
    · rename_i xs hrow
      split at h
      · rename_i ls hls
        split at h
        · rename_i hc
          obtain ⟨hc1, hc2, hc3⟩ := hc
          simp only [Option.some.injEq, Prod.mk.injEq] at h
          obtain ⟨rfl, rfl⟩ := h
          have hxs := strsOf_ok _ _ hls
          refine ⟨hen, fun base w0 K w vs hΛ hA hS => ?_⟩
          obtain ⟨hlen, g, hg1, hg2⟩ := rowAt_ok hS hrow
          obtain ⟨v1, v2, hvs⟩ : ∃ v1 v2, vs.toList = [v1, v2] := by
            match hh : vs.toList, hA.1 with
            | [p, q], _ => exact ⟨p, q, rfl⟩
          rw [hvs] at hA
          have q1 : VR K S (.sl i o v len cap ex) v1 := hA.2 0 (by simp) (by simp)
          have q2 : VR K S (.s sep) v2 := hA.2 1 (by simp) (by simp)
          have hvs' : vs = #[v1, v2] := by rw [← Array.toArray_toList (xs := vs), hvs]
          subst hvs'
          have hB : ∃ cs ver op r, S[i]? = some (.cells cs ver op r) ∧ ver = v := by
            unfold rowAt at hrow
            split at hrow
            · rename_i cs ver op r hB
              split at hrow
              · rename_i hq; exact ⟨cs, ver, op, r, hB, hq.1⟩
              · cases hrow
            · cases hrow
          obtain ⟨cs, ver, op, r, hB, rfl⟩ := hB
          have hlt := (hS.blk i _ hB).lt
          cases q2
          cases q1 with
          | sl _ _ _ _ _ _ a c B' hB' hle' hl' hcc hex ha =>
            rw [hB] at hB'; obtain rfl := Option.some.inj hB'
            obtain ⟨rfl, _⟩ := ha rfl
            have hll : ls.length = len := by rw [← hlen, hxs]; simp
            have hm : (ls.map fun l => ByteArray.mk l.toArray).map (·.data.toList) = ls := by
              rw [List.map_map]; exact (List.map_congr_left fun l _ => rfl).trans (List.map_id ls)
            have := hJ (K.μ i) o c (ls.map fun l => ByteArray.mk l.toArray) ⟨sep.toArray⟩ w (fun j y hj => ?_) hlt (by simpa [hll] using hc2) (by simp [hll]; omega) (by rw [hm]; exact hc1)
            · rw [List.length_map, hll, hm] at this
              refine this.mono fun e w' ⟨he, hb⟩ => ?_
              subst he
              exact post_of_below hS hb (.s _)
            · rw [List.getElem?_map] at hj
              obtain ⟨l, hl, rfl⟩ := Option.map_eq_some_iff.1 hj
              have hjl : j < ls.length := (List.getElem?_eq_some_iff.1 hl).1
              have e1 := hg1 j (by omega)
              have e2 := hg2 j (by omega)
              have e3 : xs.getD j .u = .s l := by rw [hxs]; simp [List.getD_eq_getElem?_getD, List.getElem?_map, hl]
              rw [e3] at e2
              generalize hgj : g j = gj at *
              cases e2
              rw [← e1]
              unfold Addr.add
              by_cases h0 : j = 0
              · subst h0; rfl
              · rw [if_neg h0]
        · cases h
      · cases h
    · cases h
  · cases h
end
end Go.Proofs.YtmocapahlcaapaaGreatDoor

namespace Go.Proofs.YtmocapahlcaapaaGreatDoor
open Go.RowKit
set_option linter.unusedSimpArgs false
set_option linter.unusedVariables false

/-- How values of a kind lie in cells. -/
structure Enc (α : Type) where
  enc : α → List AV
  dec : List AV → Option α
  sz : Nat
  pos : 0 < sz
  len : ∀ a, (enc a).length = sz
  de : ∀ a, dec (enc a) = some a
  ed : ∀ r a, dec r = some a → r = enc a

section
variable {α : Type} {E : Enc α} {S : Mem}

def decL (E : Enc α) : Nat → List AV → Option (List α)
  | 0, _ => some []
  | n + 1, xs => match E.dec (xs.take E.sz), decL E n (xs.drop E.sz) with
    | some a, some l => some (a :: l)
    | _, _ => none

theorem decL_enc : ∀ l : List α, decL E l.length (l.flatMap E.enc) = some l
  | [] => rfl
  | a :: l => by
    have h1 : (E.enc a ++ l.flatMap E.enc).take E.sz = E.enc a := by rw [← E.len a, List.take_left]
    have h2 : (E.enc a ++ l.flatMap E.enc).drop E.sz = l.flatMap E.enc := by rw [← E.len a, List.drop_left]
    simp only [List.length_cons, List.flatMap_cons, decL, h1, h2, E.de, decL_enc l]

/-- The list that a slice reads as. -/
def lstV (E : Enc α) (S : Mem) (x : AV) : Option (List α) := match x with
  | .sn => some []
  | .se => some []
  | .sl i o v len _ _ => match rowAt S i o v (len * E.sz) with
    | some xs => decL E len xs
    | none => none
  | _ => none

theorem lst_lstV {x : AV} {l : List α} (h : Lst E.sz E.enc S x l) : lstV E S x = some l := by
  rcases h with ⟨rfl, rfl⟩ | ⟨rfl, rfl⟩ | ⟨i, o, v, len, cap, ex, rfl, rfl, h3⟩
  · rfl
  · rfl
  · simp only [lstV, h3, decL_enc]

end

section
variable {α : Type} {E : Enc α} {S : Mem}
end

/-! ### Slicing -/
def appN (S : Mem) (size len n : Nat) (cs : List AV) (old : Option (List AV)) : Option (AV × Mem) := match old with
  | some old => some (.sl S.length 0 0 (len + n) (len + n) false, S ++ [.cells (old ++ cs) 0 (some size) true])
  | none => none
theorem app_ex {S : Mem} {size bytes i o v len cap n : Nat} {cs : List AV} (h0 : 0 < n) (h1 : cap < len + n) (h2 : (len + n) * bytes ≤ 70368744177664) (h3 : len + n ≤ 70368744177664) :
    appV S size bytes (.sl i o v len cap true) cs n = appN S size len n cs (rowB (S[i]?) o v (len * size)) := by
  have h2' : (len + n) * bytes ≤ lim := Nat.le_trans h2 (by unfold lim; omega)
  have h3' : len + n ≤ lim := Nat.le_trans h3 (by unfold lim; omega)
  simp only [appV]
  rw [if_neg (by omega), if_neg (by omega), if_pos ⟨h2', h3'⟩, rowAt_B]
  simp only [if_true, appN]
  cases rowB (S[i]?) o v (len * size) <;> rfl
theorem appN_some {S : Mem} {size len n : Nat} {cs old : List AV} : appN S size len n cs (some old) = some (.sl S.length 0 0 (len + n) (len + n) false, S ++ [.cells (old ++ cs) 0 (some size) true]) := (rfl)
theorem app_sn {S : Mem} {size bytes n : Nat} {cs : List AV} (h0 : 0 < n) (h2 : n * bytes ≤ 70368744177664) (h3 : n ≤ 70368744177664) :
    appV S size bytes .sn cs n = some (.sl S.length 0 0 n n false, S ++ [.cells cs 0 (some size) true]) := by
  have h2' : n * bytes ≤ lim := Nat.le_trans h2 (by unfold lim; omega)
  have h3' : n ≤ lim := Nat.le_trans h3 (by unfold lim; omega)
  simp only [appV]
  rw [if_neg (by omega), if_pos ⟨h2', h3'⟩]
def srcN (len : Nat) (old : Option (List AV)) : Option (List AV × Nat) := match old with
  | some cs => some (cs, len)
  | none => none
theorem src_sl {S : Mem} {size i o v len cap : Nat} {ex : Bool} : srcV S size (.sl i o v len cap ex) = srcN len (rowB (S[i]?) o v (len * size)) := by
  simp only [srcV, rowAt_B]
  cases rowB (S[i]?) o v (len * size) <;> rfl
theorem srcN_some {len : Nat} {cs : List AV} : srcN len (some cs) = some (cs, len) := (rfl)
theorem src_sn {S : Mem} {size : Nat} : srcV S size .sn = some ([], 0) := (rfl)
attribute [go_sem] app_ex appN_some app_sn src_sl srcN_some src_sn

end Go.Proofs.YtmocapahlcaapaaGreatDoor

namespace Go.Proofs.YtmocapahlcaapaaGreatDoor
open Go.RowKit
set_option linter.unusedSimpArgs false
set_option linter.unusedVariables false

section
variable {α : Type} {E : Enc α} {S M S0 : Mem}

theorem ext_app (T : Mem) : S <+: S ++ T := List.prefix_append S T
/-- What is built with append: nothing yet ('z': an empty slice that is not nil), or a block that append has made. -/
def Acc (z : Bool) (E : Enc α) (S M : Mem) (x : AV) (l : List α) : Prop :=
  ∃ T, M = S ++ T ∧ ((l = [] ∧ z = false ∧ x = .sn) ∨ (l = [] ∧ z = true ∧ ∃ p, x = .sl (S.length + p) 0 0 0 0 true ∧ T[p]? = some (.cells [] 0 none true)) ∨ (l ≠ [] ∧ ∃ p v, x = .sl (S.length + p) 0 v l.length l.length false ∧ T[p]? = some (.cells (l.flatMap E.enc) v (some E.sz) true)))
def retX (z : Bool) (S : Mem) : List α → AV
  | [] => if z then .sl S.length 0 0 0 0 true else .sn
  | a :: l => .sl S.length 0 0 (a :: l).length (a :: l).length false
def retM (z : Bool) (E : Enc α) (S : Mem) : List α → Mem
  | [] => if z then S ++ [.cells [] 0 none true] else S
  | a :: l => S ++ [.cells ((a :: l).flatMap E.enc) 0 (some E.sz) true]
theorem retM_ext {z : Bool} {l : List α} : S <+: retM z E S l := by cases l <;> cases z <;> simp [retM]

variable {z : Bool}
theorem Acc.ext {x : AV} {l : List α} (h : Acc z E S M x l) : S <+: M := by obtain ⟨T, rfl, _⟩ := h; exact ext_app T
theorem Acc.grow {x : AV} {l : List α} (h : Acc z E S M x l) (U : Mem) : Acc z E S (M ++ U) x l := by
  obtain ⟨T, rfl, h⟩ := h
  refine ⟨T ++ U, by rw [List.append_assoc], ?_⟩
  rcases h with h | ⟨h0, hz, p, h1, h2⟩ | ⟨h0, p, v, h1, h2⟩
  · exact .inl h
  · exact .inr (.inl ⟨h0, hz, p, h1, at_old h2⟩)
  · exact .inr (.inr ⟨h0, p, v, h1, at_old h2⟩)
theorem enc_length (l : List α) : (l.flatMap E.enc).length = l.length * E.sz := by
  induction l with
  | nil => simp
  | cons a l ih => rw [List.flatMap_cons, List.length_append, E.len, ih, List.length_cons, Nat.add_mul]; omega
theorem all_one (hE : ∀ a, (E.enc a).all AV.one = true) (l : List α) : (l.flatMap E.enc).all AV.one = true := by
  rw [List.all_eq_true]
  intro x hx
  obtain ⟨a, _, ha⟩ := List.mem_flatMap.1 hx
  exact List.all_eq_true.1 (hE a) x ha
theorem Acc.lst {x : AV} {l : List α} (h : Acc z E S M x l) : lstV E M x = some l := by
  obtain ⟨T, rfl, ⟨rfl, rfl, rfl⟩ | ⟨rfl, rfl, p, rfl, h2⟩ | ⟨h0, p, v, rfl, h2⟩⟩ := h
  · rfl
  · refine lst_lstV (.inr (.inr ⟨_, _, _, _, _, _, rfl, rfl, ?_⟩))
    rw [rowAt_B, at_app, h2]; simp [rowB]
  · refine lst_lstV (.inr (.inr ⟨_, _, _, _, _, _, rfl, rfl, ?_⟩))
    rw [rowAt_B, at_app, h2, rowB_some, if_pos (by rw [enc_length]; omega), List.drop_zero, ← enc_length, List.take_length]
/-- Some more are appended. -/
theorem Acc.apps {bytes : Nat} {x : AV} {l : List α} (hE : ∀ a, (E.enc a).all AV.one = true) (h : Acc z E S M x l) (r : List α) (h1 : (l.length + r.length) * bytes ≤ 70368744177664) (h2 : l.length + r.length ≤ 70368744177664) :
    ∃ x' M', appV M E.sz bytes x (r.flatMap E.enc) r.length = some (x', M') ∧ Acc z E S M' x' (l ++ r) := by
  have h1' : (l.length + r.length) * bytes ≤ lim := Nat.le_trans h1 (by unfold lim; omega)
  have h2' : l.length + r.length ≤ lim := Nat.le_trans h2 (by unfold lim; omega)
  by_cases hr : r = []
  · subst hr
    refine ⟨x, M, ?_, by rw [List.append_nil]; exact h⟩
    obtain ⟨T, rfl, ⟨rfl, rfl, rfl⟩ | ⟨rfl, rfl, p, rfl, h2⟩ | ⟨h0, p, v, rfl, h2⟩⟩ := h
    · simp [appV]
    · simp [appV]
    · simp [appV]
  · have hr0 : 0 < r.length := List.length_pos_iff.2 hr
    obtain ⟨T, rfl, ⟨rfl, rfl, rfl⟩ | ⟨rfl, rfl, p, rfl, hB⟩ | ⟨h0, p, v, rfl, hB⟩⟩ := h
    · simp only [List.length_nil, Nat.zero_add] at h1' h2'
      refine ⟨.sl (S ++ T).length 0 0 r.length r.length false, (S ++ T) ++ [.cells (r.flatMap E.enc) 0 (some E.sz) true], ?_, T ++ [.cells (r.flatMap E.enc) 0 (some E.sz) true], by rw [List.append_assoc], .inr (.inr ⟨by simpa using hr, T.length, 0, by simp, by simp⟩)⟩
      simp only [appV]
      rw [if_neg (by omega), if_pos ⟨h1', h2'⟩]
    · simp only [List.length_nil, Nat.zero_add] at h1' h2'
      refine ⟨.sl (S ++ T).length 0 0 r.length r.length false, (S ++ T) ++ [.cells (r.flatMap E.enc) 0 (some E.sz) true], ?_, T ++ [.cells (r.flatMap E.enc) 0 (some E.sz) true], by rw [List.append_assoc], .inr (.inr ⟨by simpa using hr, T.length, 0, by simp, by simp⟩)⟩
      have hc : rowAt (S ++ T) (S.length + p) 0 0 (0 * E.sz) = some [] := by rw [rowAt_B, at_app, hB]; simp [rowB]
      simp only [appV, hc]
      rw [if_neg (by omega), if_neg (by omega), Nat.zero_add, if_pos ⟨h1', h2'⟩]
      rfl
    · have hp : p < T.length := (List.getElem?_eq_some_iff.1 hB).1
      refine ⟨.sl (S.length + p) 0 (v + 1) (l.length + r.length) (l.length + r.length) false, S ++ T.set p (.cells (l.flatMap E.enc ++ r.flatMap E.enc) (v + 1) (some E.sz) true), ?_, _, rfl, .inr (.inr ⟨by simp [hr], p, v + 1, by rw [List.length_append], by simp [hp]⟩)⟩
      simp only [appV]
      rw [if_neg (by omega), if_neg (by omega), if_pos ⟨h1', h2'⟩]
      have hc : (S ++ T)[S.length + p]? = some (.cells (l.flatMap E.enc) v (some E.sz) true) := by rw [at_app]; exact hB
      simp only [hc, Bool.false_eq_true, if_false]
      rw [if_pos ⟨trivial, trivial, trivial, by rw [enc_length]; omega, all_one hE r⟩, set_app, ← enc_length, List.take_length]
theorem Acc.app {bytes : Nat} {x : AV} {l : List α} (hE : ∀ a, (E.enc a).all AV.one = true) (h : Acc z E S M x l) (a : α) (h1 : (l.length + 1) * bytes ≤ 70368744177664) (h2 : l.length + 1 ≤ 70368744177664) :
    ∃ x' M', appV M E.sz bytes x (E.enc a) 1 = some (x', M') ∧ Acc z E S M' x' (l ++ [a]) := by
  have := h.apps hE [a] h1 h2
  simpa using this

/-! ### Building, when what is built is only read -/
def AccL (E : Enc α) (S M : Mem) (x : AV) (l : List α) : Prop :=
  ∃ T, M = S ++ T ∧ ((l = [] ∧ x = .sn) ∨ ∃ p v ex op, x = .sl (S.length + p) 0 v l.length l.length ex ∧ T[p]? = some (.cells (l.flatMap E.enc) v op true) ∧ (ex = true ∨ op = some E.sz))
theorem AccL.ext {x : AV} {l : List α} (h : AccL E S M x l) : S <+: M := by obtain ⟨T, rfl, _⟩ := h; exact ext_app T
theorem Acc.loose {x : AV} {l : List α} (h : Acc z E S M x l) : AccL E S M x l := by
  obtain ⟨T, rfl, ⟨rfl, rfl, rfl⟩ | ⟨rfl, rfl, p, rfl, h2⟩ | ⟨h0, p, v, rfl, h2⟩⟩ := h
  · exact ⟨T, rfl, .inl ⟨rfl, rfl⟩⟩
  · exact ⟨T, rfl, .inr ⟨p, 0, true, none, rfl, h2, .inl rfl⟩⟩
  · exact ⟨T, rfl, .inr ⟨p, v, false, some E.sz, rfl, h2, .inr rfl⟩⟩
theorem AccL.grow {x : AV} {l : List α} (h : AccL E S M x l) (U : Mem) : AccL E S (M ++ U) x l := by
  obtain ⟨T, rfl, h⟩ := h
  refine ⟨T ++ U, by rw [List.append_assoc], ?_⟩
  rcases h with h | ⟨p, v, ex, op, h1, h2, h3⟩
  · exact .inl h
  · exact .inr ⟨p, v, ex, op, h1, at_old h2, h3⟩
theorem AccL.lst {x : AV} {l : List α} (h : AccL E S M x l) : lstV E M x = some l := by
  obtain ⟨T, rfl, ⟨rfl, rfl⟩ | ⟨p, v, ex, op, rfl, h2, _⟩⟩ := h
  · rfl
  · refine lst_lstV (.inr (.inr ⟨_, _, _, _, _, _, rfl, rfl, ?_⟩))
    rw [rowAt_B, at_app, h2, rowB_some, if_pos (by rw [enc_length]; omega), List.drop_zero, ← enc_length, List.take_length]
/-- Some more are appended, behind blocks that were laid since. -/
theorem AccL.apps {bytes : Nat} {x : AV} {l : List α} (hE : ∀ a, (E.enc a).all AV.one = true) (h : AccL E S M x l) (U : Mem) (r : List α) (h1 : (l.length + r.length) * bytes ≤ 70368744177664) (h2 : l.length + r.length ≤ 70368744177664) :
    ∃ x' M' U', appV (M ++ U) E.sz bytes x (r.flatMap E.enc) r.length = some (x', M' ++ (U ++ U')) ∧ M'.length = M.length ∧ AccL E S (M' ++ (U ++ U')) x' (l ++ r) ∧ (r ≠ [] → ∀ z, Acc z E S (M' ++ (U ++ U')) x' (l ++ r)) := by
  have h1' : (l.length + r.length) * bytes ≤ lim := Nat.le_trans h1 (by unfold lim; omega)
  have h2' : l.length + r.length ≤ lim := Nat.le_trans h2 (by unfold lim; omega)
  have h0 := h
  by_cases hr : r = []
  · subst hr
    refine ⟨x, M, [], ?_, rfl, by rw [List.append_nil, List.append_nil]; exact h.grow U, fun q => absurd rfl q⟩
    obtain ⟨T, rfl, ⟨rfl, rfl⟩ | ⟨p, v, ex, op, rfl, h2, _⟩⟩ := h <;> simp [appV]
  · have hr0 : 0 < r.length := List.length_pos_iff.2 hr
    suffices hs : ∃ x' M' U', appV (M ++ U) E.sz bytes x (r.flatMap E.enc) r.length = some (x', M' ++ (U ++ U')) ∧ M'.length = M.length ∧ ∃ T, M' ++ (U ++ U') = S ++ T ∧ ∃ p v, x' = .sl (S.length + p) 0 v (l ++ r).length (l ++ r).length false ∧ T[p]? = some (.cells ((l ++ r).flatMap E.enc) v (some E.sz) true) by
      obtain ⟨x', M', U', g1, g2, T, g3, p, v, g4, g5⟩ := hs
      exact ⟨x', M', U', g1, g2, ⟨T, g3, .inr ⟨p, v, false, some E.sz, g4, g5, .inr rfl⟩⟩, fun _ z => ⟨T, g3, .inr (.inr ⟨by simp [hr], p, v, g4, g5⟩)⟩⟩
    obtain ⟨T, rfl, ⟨rfl, rfl⟩ | ⟨p, v, ex, op, rfl, hB, ho⟩⟩ := h
    · simp only [List.length_nil, Nat.zero_add] at h1' h2'
      refine ⟨.sl (S ++ T ++ U).length 0 0 r.length r.length false, S ++ T, [.cells (r.flatMap E.enc) 0 (some E.sz) true], ?_, rfl, T ++ (U ++ [.cells (r.flatMap E.enc) 0 (some E.sz) true]), by simp, T.length + U.length, 0, by simp, by rw [List.nil_append, List.getElem?_append_right (by omega), List.getElem?_append_right (by omega)]; simp⟩
      simp only [appV]
      rw [if_neg (by omega), if_pos ⟨h1', h2'⟩, List.append_assoc (S ++ T)]
    · have hp : p < T.length := (List.getElem?_eq_some_iff.1 hB).1
      have hc : (S ++ T ++ U)[S.length + p]? = some (.cells (l.flatMap E.enc) v op true) := by rw [List.append_assoc, at_app]; exact at_old hB
      cases ex with
      | true =>
        refine ⟨.sl (S ++ T ++ U).length 0 0 (l.length + r.length) (l.length + r.length) false, S ++ T, [.cells (l.flatMap E.enc ++ r.flatMap E.enc) 0 (some E.sz) true], ?_, rfl, T ++ (U ++ [.cells (l.flatMap E.enc ++ r.flatMap E.enc) 0 (some E.sz) true]), by simp, T.length + U.length, 0, by simp, by rw [List.getElem?_append_right (by omega), List.getElem?_append_right (by omega), List.flatMap_append]; simp⟩
        have hrow : rowAt (S ++ T ++ U) (S.length + p) 0 v (l.length * E.sz) = some (l.flatMap E.enc) := by
          rw [rowAt_B, hc, rowB_some, if_pos (by rw [enc_length]; omega), List.drop_zero, ← enc_length, List.take_length]
        simp only [appV, hrow]
        rw [if_neg (by omega), if_neg (by omega), if_pos ⟨h1', h2'⟩, List.append_assoc (S ++ T)]
        rfl
      | false =>
        have ho : op = some E.sz := ho.resolve_left (by simp)
        subst ho
        refine ⟨.sl (S.length + p) 0 (v + 1) (l.length + r.length) (l.length + r.length) false, S ++ T.set p (.cells (l.flatMap E.enc ++ r.flatMap E.enc) (v + 1) (some E.sz) true), [], ?_, by simp, T.set p (.cells (l.flatMap E.enc ++ r.flatMap E.enc) (v + 1) (some E.sz) true) ++ U, by simp, p, v + 1, by rw [List.length_append], by rw [List.getElem?_append_left (by simpa using hp), List.flatMap_append]; simp [hp]⟩
        simp only [appV]
        rw [if_neg (by omega), if_neg (by omega), if_pos ⟨h1', h2'⟩]
        simp only [hc, Bool.false_eq_true, if_false]
        rw [if_pos ⟨trivial, trivial, trivial, by rw [enc_length]; omega, all_one hE r⟩, List.append_assoc S T U, set_app, ← enc_length, List.take_length, List.set_append_left _ _ hp, List.append_nil, List.append_assoc]

/-! ### The end -/
theorem Acc.keep {x : AV} {l : List α} (hF : ∀ n a, ∀ c ∈ E.enc a, AV.Flat n c) (h : Acc z E S M x l) : ∃ (keep : List Nat) (T : Mem), M = S ++ T ∧ (keep.all (fun k => match T[k]? with | some B => B.plain | none => false) = true) ∧ keep.Nodup ∧
    ren S.length (gKeep S.length T keep) x = retX z S l ∧ S ++ keepB S.length T keep = retM z E S l := by
  obtain ⟨T, rfl, ⟨rfl, rfl, rfl⟩ | ⟨rfl, rfl, p, rfl, hB⟩ | ⟨h0, p, v, rfl, hB⟩⟩ := h
  · exact ⟨[], T, rfl, rfl, List.nodup_nil, ren_sn, by simp [keepB_nil, retM]⟩
  · refine ⟨[p], T, rfl, by simp [hB, Blk.plain], by simp, ?_, ?_⟩
    · rw [ren_sl, gKeep_at, hB]
      simp only [List.findIdx?_cons, beq_self_eq_true, if_true, gQ_some, ver_cells, renS_some, Nat.add_zero]
      rfl
    · have hk : keepB S.length T [p] = [.cells [] 0 none true] := by
        simp only [keepB_eq, List.map_cons, List.map_nil]
        rw [show T.getD p (.dfr false) = .cells [] 0 none true by rw [List.getD_eq_getElem?_getD, hB]; rfl]
        simp only [renB_cells, renL_nil]
      rw [hk]; rfl
  · refine ⟨[p], T, rfl, by simp [hB, Blk.plain], by simp, ?_, ?_⟩
    · rw [ren_sl, gKeep_at, hB]
      simp only [List.findIdx?_cons, beq_self_eq_true, if_true, gQ_some, ver_cells, renS_some, Nat.add_zero]
      cases l with
      | nil => exact absurd rfl h0
      | cons a l => rfl
    · have hk : keepB S.length T [p] = [.cells (l.flatMap E.enc) 0 (some E.sz) true] := by
        simp only [keepB_eq, List.map_cons, List.map_nil]
        rw [show T.getD p (.dfr false) = .cells (l.flatMap E.enc) v (some E.sz) true by rw [List.getD_eq_getElem?_getD, hB]; rfl]
        simp only [renB_cells, renL_eq]
        congr 2
        refine (List.map_congr_left (g := id) fun c hc => ?_).trans (List.map_id _)
        obtain ⟨a, _, ha⟩ := List.mem_flatMap.1 hc
        exact hF _ _ _ ha _
      rw [hk]
      cases l with
      | nil => exact absurd rfl h0
      | cons a l => rfl
theorem Acc.ret {x : AV} {l : List α} (hF : ∀ n a, ∀ c ∈ E.enc a, AV.Flat n c) (h : Acc z E S M x l) : WkV S (retX z S l) (retM z E S l) x M := by
  obtain ⟨keep, T, rfl, h1, h2, h3, h4⟩ := h.keep hF
  have := wkv_keep (S0 := S) (L := T) (y := x) keep h1 h2
  rwa [h3, h4] at this
end
theorem pre_retM {α : Type} {z : Bool} {E : Enc α} {S : Mem} {l : List α} : (S <+: retM z E S l) = True := eq_true retM_ext
theorem zerosV_1 {z : List AV} : zerosV z 1 = z := by rw [zerosV_succ, zerosV_zero, List.append_nil]
theorem src_se {S : Mem} {size : Nat} : srcV S size .se = some ([], 0) := (rfl)
theorem app_sl0 {S : Mem} {size bytes i o v len cap : Nat} {ex : Bool} {cs : List AV} : appV S size bytes (.sl i o v len cap ex) cs 0 = some (.sl i o v len cap ex, S) := (rfl)
theorem app_sn0 {S : Mem} {size bytes : Nat} {cs : List AV} : appV S size bytes .sn cs 0 = some (.sn, S) := (rfl)
theorem app_se0 {S : Mem} {size bytes : Nat} {cs : List AV} : appV S size bytes .se cs 0 = some (.se, S) := (rfl)
attribute [go_sem] List.prefix_append_right_inj List.cons_prefix_cons List.nil_prefix pre_retM zerosV_1 zerosV_zero src_se app_sl0 app_sn0 app_se0
end Go.Proofs.YtmocapahlcaapaaGreatDoor

namespace Go.Proofs.YtmocapahlcaapaaGreatDoor
open Go.RowKit
set_option linter.unusedSimpArgs false
set_option linter.unusedVariables false

/-! ### Lists that are built, and other blocks -/
section
variable {α : Type} {E : Enc α} {S M : Mem}
theorem Acc.base {z : Bool} {S2 : Mem} {x : AV} {l : List α} (hS : S <+: S2) (h : Acc z E S2 M x l) : Acc z E S M x l := by
  obtain ⟨U, rfl⟩ := hS
  obtain ⟨T, rfl, h⟩ := h
  refine ⟨U ++ T, by rw [List.append_assoc], ?_⟩
  have at2 : ∀ p, (U ++ T)[U.length + p]? = T[p]? := fun p => at_app
  rcases h with h | ⟨h0, hz, p, h1, h2⟩ | ⟨h0, p, v, h1, h2⟩
  · exact .inl h
  · exact .inr (.inl ⟨h0, hz, U.length + p, by rw [h1, List.length_append, Nat.add_assoc], by rw [at2]; exact h2⟩)
  · exact .inr (.inr ⟨h0, U.length + p, v, by rw [h1, List.length_append, Nat.add_assoc], by rw [at2]; exact h2⟩)
end

end Go.Proofs.YtmocapahlcaapaaGreatDoor

namespace Go.Proofs.YtmocapahlcaapaaGreatDoor
open Go.RowKit
set_option linter.unusedSimpArgs false
set_option linter.unusedVariables false

section
variable {S0 S S1 S2 : Mem} {e e1 e2 : Env}
theorem Wk.trans (h1 : Wk S0 e S e1 S1) (h2 : Wk S0 e1 S1 e2 S2) : Wk S0 e S e2 S2 := by
  intro base w0 K0 wE K w h0 h hst
  obtain ⟨K1, q1, q2, q3⟩ := h1 base w0 K0 wE K w h0 h hst
  obtain ⟨K2, r1, r2, r3⟩ := h2 base w0 K0 wE K1 w h0 q1 q3
  exact ⟨K2, r1, fun t v hv => r2 t v (q2 t v hv), r3⟩
end
end Go.Proofs.YtmocapahlcaapaaGreatDoor

namespace Go.Proofs.YtmocapahlcaapaaGreatDoor
open Go.RowKit
set_option linter.unusedSimpArgs false
set_option linter.unusedVariables false

section
variable {P : Program} {S0 : Mem} {rd : Bool} {e : Env} {S : Mem} {d : List Nat} {Q : Kont}
end
end Go.Proofs.YtmocapahlcaapaaGreatDoor

namespace Go.Proofs.YtmocapahlcaapaaGreatDoor
open Go.RowKit
set_option linter.unusedSimpArgs false
set_option linter.unusedVariables false

section
variable {S0 S : Mem} {e e2 : Env}
end
end Go.Proofs.YtmocapahlcaapaaGreatDoor

namespace Go.Proofs.YtmocapahlcaapaaGreatDoor
open Go.RowKit
set_option linter.unusedSimpArgs false
set_option linter.unusedVariables false

/-- Behind whatever leaves the old memory alone, a block that was laid in the new one. -/
theorem Sim.comes {base : Bs} {w0 : World} {K : Ctx} {S : Mem} {w w' : World} (h : Sim base w0 K S w) (hb : Below w.heap.size w w') {g n : Nat} (hg : w.heap.size ≤ g) (B : Blk)
    (hB : ∀ K' S', Ext K S K' S' → K'.μ S.length = g → K'.σ S.length = n → BRel base K' S' w' S.length B) :
    Sim base w0 (K.put S.length g n) (S ++ [B]) w' ∧ Stp K S w (K.put S.length g n) (S ++ [B]) w' := by
  have hE : Ext K S (K.put S.length g n) (S ++ [B]) := Ext.push K S B _ _
  have hs : Stp K S w (K.put S.length g n) (S ++ [B]) w' := by
    refine ⟨hE, hb.os, hb.tape, hb.output, hb.size, fun b hlt _ => hb.block b hlt, fun i B' hB' => ?_⟩
    rcases Nat.lt_or_ge i S.length with hi | hi
    · rw [List.getElem?_append_left hi] at hB'
      exact .inl ⟨B', hB', id, (K.put_other _ _ (by omega)).1⟩
    · have : i = S.length := by
        have := (List.getElem?_eq_some_iff.1 hB').1
        simp at this; omega
      subst this
      exact .inr (by rw [(K.put_same _ _ _).1]; exact hg)
  refine ⟨⟨fun i B' hB' => ?_, fun i j hi hj e => ?_, h.step_below hs, Nat.le_trans h.hb hs.size, h.door⟩, hs⟩
  · rcases Nat.lt_or_ge i S.length with hi | hi
    · rw [List.getElem?_append_left hi] at hB'
      have h1 := h.blk i B' hB'
      have hp := K.put_other g n (show i ≠ S.length by omega)
      exact h1.mono hE hp.1 hp.2 (hb.block _ h1.lt)
    · have : i = S.length := by
        have := (List.getElem?_eq_some_iff.1 hB').1
        simp at this; omega
      subst this
      have hp := K.put_same S.length g n
      simp at hB'
      subst hB'
      exact hB _ _ hE hp.1 hp.2
  · have lt : ∀ k, k < S.length → K.μ k < w.heap.size := fun k hk => (h.blk k S[k] (List.getElem?_eq_getElem hk)).lt
    simp only [List.length_append, List.length_singleton] at hi hj
    rcases Nat.lt_or_ge i S.length with hi' | hi' <;> rcases Nat.lt_or_ge j S.length with hj' | hj'
    · rw [(K.put_other _ _ (by omega)).1, (K.put_other _ _ (by omega)).1] at e
      exact h.inj i j hi' hj' e
    · have : j = S.length := by omega
      subst this
      rw [(K.put_other _ _ (by omega)).1, (K.put_same _ _ _).1] at e
      have := lt i hi'; omega
    · have : i = S.length := by omega
      subst this
      rw [(K.put_other _ _ (show j ≠ S.length by omega)).1, (K.put_same _ _ _).1] at e
      have := lt j hj'; omega
    · omega
theorem Sim.later {base : Bs} {w0 : World} {K : Ctx} {S : Mem} {w w' : World} (h : Sim base w0 K S w) (hb : Below w.heap.size w w') : Sim base w0 K S w' ∧ Stp K S w K S w' := by
  have hs : Stp K S w K S w' := ⟨.refl K S, hb.os, hb.tape, hb.output, hb.size, fun b hlt _ => hb.block b hlt, fun _ B' h => .inl ⟨B', h, id, rfl⟩⟩
  exact ⟨⟨fun i B hB => (h.blk i B hB).mono (.refl K S) rfl rfl (hb.block _ (h.blk i B hB).lt), h.inj, h.step_below hs, Nat.le_trans h.hb hs.size, h.door⟩, hs⟩
/-! ### Numbers in order -/
end Go.Proofs.YtmocapahlcaapaaGreatDoor

namespace Go.Proofs.YtmocapahlcaapaaGreatDoor
open Go.RowKit
set_option linter.unusedSimpArgs false
set_option linter.unusedVariables false

section
variable {P : Program}

/-- A call that changes nothing that was there: a contract with values that need no memory. -/
theorem fnOK_of_calls {f : FuncId} {args : List AV} {S : Mem} {x : AV} (hen : enterable P f = true)
    (h : ∀ (K : Ctx) (w : World) (vs : Array Value), ArgsR K S args vs.toList → Facts w → Calls P f vs w fun e w' => ∃ v, e = .returned v ∧ VR K S x v ∧ Below w.heap.size w w') : FnOK P f args S x S := by
  refine ⟨hen, fun base w0 K w vs hΛ hA hS => ?_⟩
  refine (h K w vs hA (hS.door w hS.below)).mono fun e w' ⟨v, he, hv, hb⟩ => ?_
  obtain ⟨h1, h2, h3, h4, h5⟩ := hb
  have hst : Stp K S w K S w' := ⟨.refl K S, h1, h2, h3, h4, fun b hb _ => h5 b hb, fun _ B' h => .inl ⟨B', h, id, rfl⟩⟩
  exact ⟨K, v, he, hv, ⟨fun i B hB => (hS.blk i B hB).mono (.refl K S) rfl rfl (h5 _ (hS.blk i B hB).lt), hS.inj, hS.step_below hst, Nat.le_trans hS.hb h4, hS.door⟩, hst⟩

/-- strconv.Itoa. -/
def itoaS : Spec := fun args S => match args with
  | [.i .i64 n] => if -9223372036854775808 ≤ n ∧ n ≤ 9223372036854775807 then some (.s (Lib.itoa n), S) else none
  | _ => none
theorem itoa_ok {f : FuncId} (hen : enterable P f = true)
    (hI : ∀ (n : Int) (w : World), -9223372036854775808 ≤ n → n ≤ 9223372036854775807 → Facts w → Calls P f #[.int .i64 n] w fun e w' => e = .returned (.string ⟨(Lib.itoa n).toArray⟩) ∧ Below w.heap.size w w') : SpecOK P f itoaS := by
  intro args S x S' h
  unfold itoaS at h
  split at h
  · rename_i n
    split at h
    · rename_i hc
      simp only [Option.some.injEq, Prod.mk.injEq] at h
      obtain ⟨rfl, rfl⟩ := h
      refine fnOK_of_calls hen fun K w vs hA hF => ?_
      obtain ⟨v1, hvs⟩ : ∃ v1, vs.toList = [v1] := by
        match hh : vs.toList, hA.1 with
        | [p], _ => exact ⟨p, rfl⟩
      rw [hvs] at hA
      have q1 : VR K S (.i .i64 n) v1 := hA.2 0 (by simp) (by simp)
      have hvs' : vs = #[v1] := by rw [← Array.toArray_toList (xs := vs), hvs]
      subst hvs'
      cases q1
      refine (hI n w hc.1 hc.2 hF).mono fun e w' ⟨he, hb⟩ => ⟨_, he, .s _, hb⟩
    · cases h
  · cases h

/-- strconv.FormatUint at base 10. -/
def fuintS : Spec := fun args S => match args with
  | [.i .u64 n, .i .i64 b] => if 0 ≤ n ∧ n ≤ 18446744073709551615 ∧ b = 10 then some (.s (Lib.decDigits n.toNat), S) else none
  | _ => none
theorem fuint_ok {f : FuncId} (hen : enterable P f = true)
    (hI : ∀ (n : Nat) (w : World), n < 18446744073709551616 → Facts w → Calls P f #[.int .u64 n, .int .i64 10] w fun e w' => e = .returned (.string ⟨(Lib.decDigits n).toArray⟩) ∧ Below w.heap.size w w') : SpecOK P f fuintS := by
  intro args S x S' h
  unfold fuintS at h
  split at h
  · rename_i n b
    split at h
    · rename_i hc
      obtain ⟨hc1, hc2, rfl⟩ := hc
      simp only [Option.some.injEq, Prod.mk.injEq] at h
      obtain ⟨rfl, rfl⟩ := h
      refine fnOK_of_calls hen fun K w vs hA hF => ?_
      obtain ⟨v1, v2, hvs⟩ : ∃ v1 v2, vs.toList = [v1, v2] := by
        match hh : vs.toList, hA.1 with
        | [p, q], _ => exact ⟨p, q, rfl⟩
      rw [hvs] at hA
      have q1 : VR K S (.i .u64 n) v1 := hA.2 0 (by simp) (by simp)
      have q2 : VR K S (.i .i64 10) v2 := hA.2 1 (by simp) (by simp)
      have hvs' : vs = #[v1, v2] := by rw [← Array.toArray_toList (xs := vs), hvs]
      subst hvs'
      cases q1; cases q2
      obtain ⟨m, rfl⟩ : ∃ m : Nat, n = m := ⟨n.toNat, by omega⟩
      exact (hI m w (by omega) hF).mono fun e w' ⟨he, hb⟩ => ⟨_, he, .s _, hb⟩
    · cases h
  · cases h

/-- How a parse ends: the answer; T: the error's type. -/
def atoiX (T : TypeId) (l : List UInt8) : AV := match Lib.atoiAll l with
  | .ok v => .tu [.i .i64 v, .ni]
  | Lib.NumEnd.syntax => .tu [.i .i64 0, .it T .u]
  | .range => .tu [.i .i64 (Lib.atoiSat l), .it T .u]
/-- strconv.Atoi. -/
def atoiS (T : TypeId) : Spec := fun args S => match args with
  | [.s l] => if l.length ≤ 281474976710656 then some (atoiX T l, S) else none
  | _ => none
theorem tu2 {K : Ctx} {S : Mem} {a b : AV} {x y : Value} (h1 : VR K S a x) (h2 : VR K S b y) : VR K S (.tu [a, b]) (.tuple #[x, y]) := by
  refine .tu _ _ rfl fun k => ?_
  match k with
  | 0 => exact h1
  | 1 => exact h2
  | k + 2 => exact .u _
theorem bsize (l : List UInt8) : (ByteArray.mk l.toArray).size = l.length := by simp [ByteArray.size]
theorem atoi_ok {f : FuncId} {T : TypeId} (hen : enterable P f = true)
    (h1 : ∀ (s : ByteArray) (v : Int) (w : World), s.size ≤ 9223372036854775806 → Lib.atoiAll s.data.toList = .ok v → Calls P f #[.string s] w fun e w' => e = .returned (.tuple #[.int .i64 v, .nilIface]) ∧ Below w.heap.size w w')
    (h2 : ∀ (s : ByteArray) (w : World), s.size ≤ 281474976710656 → Lib.atoiAll s.data.toList = Lib.NumEnd.syntax → Facts w → Calls P f #[.string s] w fun e w' => ∃ v, e = .returned (.tuple #[.int .i64 0, .iface T v]) ∧ Below w.heap.size w w')
    (h3 : ∀ (s : ByteArray) (w : World), s.size ≤ 281474976710656 → Lib.atoiAll s.data.toList = .range → Facts w → Calls P f #[.string s] w fun e w' => ∃ v, e = .returned (.tuple #[.int .i64 (Lib.atoiSat s.data.toList), .iface T v]) ∧ Below w.heap.size w w') : SpecOK P f (atoiS T) := by
  intro args S x S' h
  unfold atoiS at h
  split at h
  · rename_i l
    split at h
    · rename_i hc
      simp only [Option.some.injEq, Prod.mk.injEq] at h
      obtain ⟨rfl, rfl⟩ := h
      refine fnOK_of_calls hen fun K w vs hA hF => ?_
      obtain ⟨v1, hvs⟩ : ∃ v1, vs.toList = [v1] := by
        match hh : vs.toList, hA.1 with
        | [p], _ => exact ⟨p, rfl⟩
      rw [hvs] at hA
      have q1 : VR K S (.s l) v1 := hA.2 0 (by simp) (by simp)
      have hvs' : vs = #[v1] := by rw [← Array.toArray_toList (xs := vs), hvs]
      subst hvs'
      cases q1
      have hsz := bsize l
      unfold atoiX
      rcases hr : Lib.atoiAll l with v | _ | _
      · exact (h1 ⟨l.toArray⟩ v w (by rw [hsz]; omega) hr).mono fun e w' ⟨he, hb⟩ => ⟨_, he, tu2 (.i _ _) .ni, hb⟩
      · exact (h2 ⟨l.toArray⟩ w (by rw [hsz]; omega) hr hF).mono fun e w' ⟨v, he, hb⟩ => ⟨_, he, tu2 (.i _ _) (.it _ _ _ (.u _)), hb⟩
      · exact (h3 ⟨l.toArray⟩ w (by rw [hsz]; omega) hr hF).mono fun e w' ⟨v, he, hb⟩ => ⟨_, he, tu2 (.i _ _) (.it _ _ _ (.u _)), hb⟩
    · cases h
  · cases h
end
end Go.Proofs.YtmocapahlcaapaaGreatDoor

namespace Go.Proofs.YtmocapahlcaapaaGreatDoor
open Go.RowKit
set_option linter.unusedSimpArgs false
set_option linter.unusedVariables false

section
variable {P : Program}

/-- strings.Count at a text of one byte. -/
def countS : Spec := fun args S => match args with
  | [.s l, .s [c]] => some (.i .i64 (Lib.countByte l c), S)
  | _ => none
theorem count_ok {f : FuncId} (hen : enterable P f = true)
    (hC : ∀ (s : ByteArray) (c : UInt8) (w : World), Calls P f #[.string s, .string ⟨#[c]⟩] w fun e w' => e = .returned (.int .i64 (Lib.countByte s.data.toList c)) ∧ w' = w) : SpecOK P f countS := by
  intro args S x S' h
  unfold countS at h
  split at h
  · rename_i l c
    simp only [Option.some.injEq, Prod.mk.injEq] at h
    obtain ⟨rfl, rfl⟩ := h
    refine fnOK_of_calls hen fun K w vs hA hF => ?_
    obtain ⟨v1, v2, hvs⟩ : ∃ v1 v2, vs.toList = [v1, v2] := by
      match hh : vs.toList, hA.1 with
      | [p, q], _ => exact ⟨p, q, rfl⟩
    rw [hvs] at hA
    have q1 : VR K S (.s l) v1 := hA.2 0 (by simp) (by simp)
    have q2 : VR K S (.s [c]) v2 := hA.2 1 (by simp) (by simp)
    have hvs' : vs = #[v1, v2] := by rw [← Array.toArray_toList (xs := vs), hvs]
    subst hvs'
    cases q1; cases q2
    exact (hC ⟨l.toArray⟩ c w).mono fun e w' ⟨he, hw⟩ => ⟨_, he, .i _ _, hw ▸ Below.refl _ _⟩
  · cases h

/-- strings.Fields of plain letters. -/
def okText (l : List UInt8) : Bool := Nat.blt l.length 4294967281 && l.all fun b => Nat.blt b.toNat 128
def fieldsS : Spec := fun args S => match args with
  | [.s l] => if okText l = true then some (.sl S.length 0 0 (Lib.fields l).length (Lib.fields l).length true, S ++ [.cells ((Lib.fields l).map .s) 0 none true]) else none
  | _ => none
theorem fields_ok {f : FuncId} {t : TypeId} (hen : enterable P f = true)
    (hC : ∀ (s : ByteArray) (w : World), s.size < 4294967281 → (∀ (j : Nat) b, s.data.toList[j]? = some b → b.toNat < 128) → Facts w →
      Calls P f #[.string s] w fun e w' => e = .returned (.slice (some ⟨w.heap.size, 0, none⟩) (Lib.fields s.data.toList).length (Lib.fields s.data.toList).length) ∧ w' = w.alloc (.cells ((Lib.fields s.data.toList).map fun l => Value.string ⟨l.toArray⟩).toArray t)) : SpecOK P f fieldsS := by
  intro args S x S' h
  unfold fieldsS at h
  split at h
  · rename_i l
    split at h
    · rename_i hc
      simp only [Option.some.injEq, Prod.mk.injEq] at h
      obtain ⟨rfl, rfl⟩ := h
      unfold okText at hc
      rw [Bool.and_eq_true, List.all_eq_true] at hc
      obtain ⟨hc1, hc2⟩ := hc
      have hc1 : l.length < 4294967281 := Nat.le_of_ble_eq_true hc1
      refine ⟨hen, fun base w0 K w vs hΛ hA hS => ?_⟩
      obtain ⟨v1, hvs⟩ : ∃ v1, vs.toList = [v1] := by
        match hh : vs.toList, hA.1 with
        | [p], _ => exact ⟨p, rfl⟩
      rw [hvs] at hA
      have q1 : VR K S (.s l) v1 := hA.2 0 (by simp) (by simp)
      have hvs' : vs = #[v1] := by rw [← Array.toArray_toList (xs := vs), hvs]
      subst hvs'
      cases q1
      refine (hC ⟨l.toArray⟩ w (by rw [bsize]; exact hc1) (fun j b hj => ?_) (hS.door w hS.below)).mono fun e w' ⟨he, hw⟩ => ?_
      · have hj : l[j]? = some b := hj
        exact Nat.le_of_ble_eq_true (hc2 b (List.mem_of_getElem? hj))
      · subst he
        have hb : Below w.heap.size w w' := by rw [hw]; exact (Below.refl _ _).alloc (Nat.le_refl _) _
        have hg : w'.heap[w.heap.size]? = some (.cells ((Lib.fields l).map fun l => Value.string ⟨l.toArray⟩).toArray t) := by rw [hw]; exact World.alloc_heap_new w _
        obtain ⟨r1, r2⟩ := hS.comes hb (Nat.le_refl _) (n := (Lib.fields l).length) (.cells ((Lib.fields l).map .s) 0 none true) fun K' S' hE hμ hσ => by
          refine ⟨_, _, _, by rw [hμ]; exact hg, by rw [hσ]; simp, by simp, fun _ => by simp, fun k hk => ?_, fun _ => ⟨by rw [hμ]; exact hS.hb, fun o _ => by simp⟩⟩
          rw [List.length_map] at hk
          have e1 : ((Lib.fields l).map AV.s).getD k .u = .s ((Lib.fields l)[k]) := by
            rw [List.getD_eq_getElem?_getD, List.getElem?_map, List.getElem?_eq_getElem hk]; rfl
          have e2 : (((Lib.fields l).map fun l => Value.string ⟨l.toArray⟩).toArray).getD k undef = .string ⟨((Lib.fields l)[k]).toArray⟩ := by
            rw [Array.getD_eq_getD_getElem?, List.getElem?_toArray, List.getElem?_map, List.getElem?_eq_getElem hk]; rfl
          rw [e1, e2]
          exact .s _
        refine ⟨_, _, rfl, ?_, r1, r2⟩
        refine .sl _ _ _ _ _ _ _ _ (.cells ((Lib.fields l).map .s) 0 none true) (by simp) (Nat.le_refl _) (Nat.le_refl _) (Nat.le_refl _) (fun _ => rfl) fun _ => ⟨?_, fun q => by cases q⟩
        rw [(K.put_same _ _ _).1]
    · cases h
  · cases h

/-- How a parse ends: the answer; T: the error's type. -/
def uintX (T : TypeId) (l : List UInt8) : AV := match Lib.parseUintB 64 l with
  | .ok v => .tu [.i .u64 (v : Int), .ni]
  | Lib.NumEnd.syntax => .tu [.i .u64 0, .it T .u]
  | .range => .tu [.i .u64 18446744073709551615, .it T .u]
/-- strconv.ParseUint at base 10, 64 bits. -/
def puintS (T : TypeId) : Spec := fun args S => match args with
  | [.s l, .i .i64 a, .i .i64 b] => if a = 10 ∧ b = 64 ∧ l.length ≤ 281474976710656 then some (uintX T l, S) else none
  | _ => none
theorem puint_ok {f : FuncId} {T : TypeId} (hen : enterable P f = true)
    (h1 : ∀ (s : ByteArray) (v : Nat) (w : World), s.size ≤ 9223372036854775806 → Lib.parseUintB 64 s.data.toList = .ok v → Calls P f #[.string s, .int .i64 10, .int .i64 64] w fun e w' => e = .returned (.tuple #[.int .u64 v, .nilIface]) ∧ Below w.heap.size w w')
    (h2 : ∀ (s : ByteArray) (w : World), s.size ≤ 281474976710656 → Lib.parseUintB 64 s.data.toList = Lib.NumEnd.syntax → Facts w → Calls P f #[.string s, .int .i64 10, .int .i64 64] w fun e w' => ∃ v, e = .returned (.tuple #[.int .u64 0, .iface T v]) ∧ Below w.heap.size w w')
    (h3 : ∀ (s : ByteArray) (w : World), s.size ≤ 281474976710656 → Lib.parseUintB 64 s.data.toList = .range → Facts w → Calls P f #[.string s, .int .i64 10, .int .i64 64] w fun e w' => ∃ v, e = .returned (.tuple #[.int .u64 18446744073709551615, .iface T v]) ∧ Below w.heap.size w w') : SpecOK P f (puintS T) := by
  intro args S x S' h
  unfold puintS at h
  split at h
  · rename_i l a b
    split at h
    · rename_i hc
      obtain ⟨rfl, rfl, hc⟩ := hc
      simp only [Option.some.injEq, Prod.mk.injEq] at h
      obtain ⟨rfl, rfl⟩ := h
      refine fnOK_of_calls hen fun K w vs hA hF => ?_
      obtain ⟨v1, v2, v3, hvs⟩ : ∃ v1 v2 v3, vs.toList = [v1, v2, v3] := by
        match hh : vs.toList, hA.1 with
        | [p, q, r], _ => exact ⟨p, q, r, rfl⟩
      rw [hvs] at hA
      have q1 : VR K S (.s l) v1 := hA.2 0 (by simp) (by simp)
      have q2 : VR K S (.i .i64 10) v2 := hA.2 1 (by simp) (by simp)
      have q3 : VR K S (.i .i64 64) v3 := hA.2 2 (by simp) (by simp)
      have hvs' : vs = #[v1, v2, v3] := by rw [← Array.toArray_toList (xs := vs), hvs]
      subst hvs'
      cases q1; cases q2; cases q3
      have hsz := bsize l
      unfold uintX
      rcases hr : Lib.parseUintB 64 l with v | _ | _
      · exact (h1 ⟨l.toArray⟩ v w (by rw [hsz]; omega) hr).mono fun e w' ⟨he, hb⟩ => ⟨_, he, tu2 (.i _ _) .ni, hb⟩
      · exact (h2 ⟨l.toArray⟩ w (by rw [hsz]; omega) hr hF).mono fun e w' ⟨v, he, hb⟩ => ⟨_, he, tu2 (.i _ _) (.it _ _ _ (.u _)), hb⟩
      · exact (h3 ⟨l.toArray⟩ w (by rw [hsz]; omega) hr hF).mono fun e w' ⟨v, he, hb⟩ => ⟨_, he, tu2 (.i _ _) (.it _ _ _ (.u _)), hb⟩
    · cases h
  · cases h
end
end Go.Proofs.YtmocapahlcaapaaGreatDoor

