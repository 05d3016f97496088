/- Proved here: what the law of this claim leans on (an evaluator of the model's code, contracts of functions). No condition. -/
import Derived.Test.YtmolaemlenllmaaGreatMb
import Derived.ChangeArms
import Derived.DataReads
import Derived.Carry
import Derived.Lib.Join
namespace Go.Proofs.YtmolaemlenllmaaGreat
set_option linter.unusedSimpArgs false
set_option linter.unusedVariables false
open Go.RowKit

section
variable {P : Program} {O : Orc} {S0 : Mem} {rd : Bool} {e : Env} {S : Mem} {d : List Nat} {Q : Kont} {k : AV → Mem → Prop} {k' : Env → Mem → Prop}

/-! ### Code -/
theorem W_skip : W P O S0 rd .skip e S d Q = Q .normal e S d := (rfl)
theorem W_region {ops : List ROp} : W P O S0 rd (.region ops) e S d Q = wOps O ops e S (normK Q d) := (rfl)
theorem W_seq {a b : ICode} : W P O S0 rd (.seq a b) e S d Q = W P O S0 rd a e S d (seqK (W P O S0 rd b) Q) := (rfl)
theorem W_live {l : List Nat} {c : ICode} : W P O S0 rd (.live l c) e S d Q = W P O S0 rd c (keepE e l) S d Q := (rfl)
theorem W_cond {c : X} {a b : ICode} : W P O S0 rd (.cond c a b) e S d Q = wCond (c.ev e) (W P O S0 rd a e S d Q) (W P O S0 rd b e S d Q) := (rfl)
theorem W_block {id : Nat} {c : ICode} : W P O S0 rd (.block id c) e S d Q = W P O S0 rd c e S d (blockK id Q) := (rfl)
theorem W_exit {id : Nat} : W P O S0 rd (.exit id) e S d Q = Q (.exit id) e S d := (rfl)
theorem W_ret : W P O S0 rd .ret e S d Q = Q .ret e S d := (rfl)
theorem W_goto {l : Nat} : W P O S0 rd (.goto l) e S d Q = Q (.goto l) e S d := (rfl)
theorem normK_app : normK Q d e S = Q .normal e S d := (rfl)
theorem blockK_exit_same {id : Nat} : blockK id Q (.exit id) e S d = Q .normal e S d := by rw [blockK_exit, if_pos rfl]
theorem wCond_true {A B : Prop} : wCond (.b true) A B = A := by simp [wCond]
theorem wCond_false {A B : Prop} : wCond (.b false) A B = B := by simp [wCond]
theorem wCond_dec {p : Prop} [Decidable p] {A B : Prop} : wCond (.b (decide p)) A B = ((p → A) ∧ (¬ p → B)) := by simp [wCond]

/-! ### Operations in the order of the text -/
def opsK (O : Orc) (r : List ROp) (e : Env) (dst : Option Nat) (k : Env → Mem → Prop) : AV → Mem → Prop := fun x S => wOps O r (putE e dst x) S k
def gA (O : Orc) (io : IOp) (S : Mem) (r : List ROp) (dst : Option Nat) (k : Env → Mem → Prop) : Env → Prop := fun e => optK (evOp O e S io) (opsK O r e dst k)
def gB (O : Orc) (r : List ROp) (S : Mem) (dst : Option Nat) (k : Env → Mem → Prop) : Env → Prop := fun e => wOps O r (putE e dst .ud) S k
theorem wOps_nil : wOps O [] e S k' = k' e S := (rfl)
theorem wOps_op {dst : Option Nat} {io : IOp} {r : List ROp} : wOps O (⟨dst, none, io⟩ :: r) e S k' = optK (evOp O e S io) (opsK O r e dst k') := (rfl)
theorem wOps_gd {dst : Option Nat} {t : Nat} {b : Bool} {io : IOp} {r : List ROp} : wOps O (⟨dst, some (t, b), io⟩ :: r) e S k' = wGd (e.get t) e t b (gA O io S r dst k') (gB O r S dst k') := (rfl)
theorem opsK_some {r : List ROp} {t : Nat} {x : AV} : opsK O r e (some t) k' x S = wOps O r ((t, x) :: e) S k' := (rfl)
theorem opsK_none {r : List ROp} {x : AV} : opsK O r e none k' x S = wOps O r e S k' := (rfl)
theorem gA_app {io : IOp} {r : List ROp} {dst : Option Nat} : gA O io S r dst k' e = optK (evOp O e S io) (opsK O r e dst k') := (rfl)
theorem gB_some {r : List ROp} {t : Nat} : gB O r S (some t) k' e = wOps O r ((t, .ud) :: e) S k' := (rfl)
theorem gB_none {r : List ROp} : gB O r S none k' e = wOps O r e S k' := (rfl)

theorem wGd_tt {t : Nat} {A B : Env → Prop} : wGd (.b true) e t true A B = A ((t, .b true) :: e) := by simp [wGd]
theorem wGd_tf {t : Nat} {A B : Env → Prop} : wGd (.b true) e t false A B = B ((t, .b true) :: e) := by simp [wGd]
theorem wGd_ft {t : Nat} {A B : Env → Prop} : wGd (.b false) e t true A B = B ((t, .b false) :: e) := by simp [wGd]
theorem wGd_ff {t : Nat} {A B : Env → Prop} : wGd (.b false) e t false A B = A ((t, .b false) :: e) := by simp [wGd]
theorem wGd_dect {p : Prop} [Decidable p] {t : Nat} {A B : Env → Prop} : wGd (.b (decide p)) e t true A B = ((p → A ((t, .b true) :: e)) ∧ (¬ p → B ((t, .b false) :: e))) := by simp [wGd]
theorem wGd_decf {p : Prop} [Decidable p] {t : Nat} {A B : Env → Prop} : wGd (.b (decide p)) e t false A B = ((¬ p → A ((t, .b false) :: e)) ∧ (p → B ((t, .b true) :: e))) := by simp [wGd]
theorem wGd_ud {t : Nat} {b : Bool} {A B : Env → Prop} : wGd .ud e t b A B = B e := (rfl)
def flK (O : Orc) (r : List (ROp × Bool)) (e : Env) (dst : Option Nat) (k : Env → Mem → Prop) : AV → Mem → Prop := fun x S => wFl O r (putE e dst x) S k
def flM (O : Orc) (r : List (ROp × Bool)) (e : Env) (dst : Option Nat) (k : Env → Mem → Prop) (S : Mem) : AV → Mem → Prop := fun x S' => S <+: S' ∧ wFl O r (putE e dst x) S' k
def fA (O : Orc) (io : IOp) (S : Mem) (r : List (ROp × Bool)) (dst : Option Nat) (k : Env → Mem → Prop) : Env → Prop := fun e => optK (evOp O e S io) (flK O r e dst k)
def fAM (O : Orc) (io : IOp) (S : Mem) (r : List (ROp × Bool)) (dst : Option Nat) (k : Env → Mem → Prop) : Env → Prop := fun e => optK (evOp O e S io) (flM O r e dst k S)
def fB (O : Orc) (r : List (ROp × Bool)) (S : Mem) (dst : Option Nat) (k : Env → Mem → Prop) : Env → Prop := fun e => wFl O r (putE e dst .ud) S k
theorem wFl_nil : wFl O [] e S k' = k' e S := (rfl)
theorem wFl_op {dst : Option Nat} {io : IOp} {r : List (ROp × Bool)} : wFl O ((⟨dst, none, io⟩, false) :: r) e S k' = optK (evOp O e S io) (flK O r e dst k') := by
  simp only [wFl]; congr 1; funext x S'; simp [flK]
theorem wFl_m {dst : Option Nat} {io : IOp} {r : List (ROp × Bool)} : wFl O ((⟨dst, none, io⟩, true) :: r) e S k' = optK (evOp O e S io) (flM O r e dst k' S) := by
  simp only [wFl]; congr 1; funext x S'; simp [flM]
theorem wFl_gd {dst : Option Nat} {t : Nat} {b : Bool} {io : IOp} {r : List (ROp × Bool)} : wFl O ((⟨dst, some (t, b), io⟩, false) :: r) e S k' = wGd (e.get t) e t b (fA O io S r dst k') (fB O r S dst k') := by
  simp only [wFl]; congr 1; funext e; simp only [fA]; congr 1; funext x S'; simp [flK]
theorem wFl_gm {dst : Option Nat} {t : Nat} {b : Bool} {io : IOp} {r : List (ROp × Bool)} : wFl O ((⟨dst, some (t, b), io⟩, true) :: r) e S k' = wGd (e.get t) e t b (fAM O io S r dst k') (fB O r S dst k') := by
  simp only [wFl]; congr 1; funext e; simp only [fAM]; congr 1; funext x S'; simp [flM]
theorem flK_some {r : List (ROp × Bool)} {t : Nat} {x : AV} : flK O r e (some t) k' x S = wFl O r ((t, x) :: e) S k' := (rfl)
theorem flK_none {r : List (ROp × Bool)} {x : AV} : flK O r e none k' x S = wFl O r e S k' := (rfl)
theorem flM_some {r : List (ROp × Bool)} {t : Nat} {x : AV} {S' : Mem} : flM O r e (some t) k' S x S' = (S <+: S' ∧ wFl O r ((t, x) :: e) S' k') := (rfl)
theorem flM_none {r : List (ROp × Bool)} {x : AV} {S' : Mem} : flM O r e none k' S x S' = (S <+: S' ∧ wFl O r e S' k') := (rfl)
theorem fA_app {io : IOp} {r : List (ROp × Bool)} {dst : Option Nat} : fA O io S r dst k' e = optK (evOp O e S io) (flK O r e dst k') := (rfl)
theorem fAM_app {io : IOp} {r : List (ROp × Bool)} {dst : Option Nat} : fAM O io S r dst k' e = optK (evOp O e S io) (flM O r e dst k' S) := (rfl)
theorem fB_some {r : List (ROp × Bool)} {t : Nat} : fB O r S (some t) k' e = wFl O r ((t, .ud) :: e) S k' := (rfl)
theorem fB_none {r : List (ROp × Bool)} : fB O r S none k' e = wFl O r e S k' := (rfl)
theorem W_draw' {st : List Stage} {late : List Nat} {l : List (ROp × Bool)} (hk : growsSt late st = true) (hl : flatSt st = l) : W P O S0 rd (.draw st late) e S d Q = wFl O l e S (normK Q d) := by
  have h1 : stOk late st [] = true := by unfold growsSt at hk; simp only [Bool.and_eq_true] at hk; exact hk.1
  simp only [W, hk, if_true, hl, h1, true_and]
theorem W_drawE {st : List Stage} {late : List Nat} (hk : growsSt late st = false) : W P O S0 rd (.draw st late) e S d Q = drawK (evDraw O st late e S) (normK Q d) := by
  simp only [W, hk, Bool.false_eq_true, if_false]
theorem drawK_some {e : Env} {S : Mem} {k : Env → Mem → Prop} : drawK (some (e, S)) k = k e S := (rfl)
theorem pre_same : (S <+: S) = True := by simp
theorem pre_app {T : Mem} : (S <+: S ++ T) = True := by simp

/-! ### One operation -/
theorem evOp_op {io : IO'} : evOp O e S (.op io) = evIO e S io := (rfl)
theorem evOp_call {f : FuncId} {xs : List X} : evOp O e S (.call f xs) = O.fn f (xs.map (·.ev e)) S := (rfl)
theorem evOp_callv {x : X} {xs : List X} : evOp O e S (.callv x xs) = (match x.ev e with | .f (.func f) a b => O.fn f (a ++ xs.map (·.ev e) ++ b) S | .y i => O.y i (xs.map (·.ev e)) S | _ => none) := (rfl)
theorem optK_some {x : AV} : optK (some (x, S)) k = k x S := (rfl)
theorem optV_some {x : AV} : optV (some x) S k = k x S := (rfl)
theorem optM_some {x : AV} : optM (some S) x k = k x S := (rfl)
theorem xev_t {t : Nat} : X.ev e (.t t) = e.get t := (rfl)
theorem xev_c {v : AV} : X.ev e (.c v) = v := (rfl)
theorem get_ite {t t' : Nat} {x : AV} : Env.get ((t, x) :: e) t' = if t = t' then x else e.get t' := by
  by_cases h : t = t'
  · subst h; rw [get_put_same, if_pos rfl]
  · rw [get_put_ne _ _ h, if_neg h]
theorem get_nil {t : Nat} : Env.get [] t = .u := (rfl)

theorem oK (o : Option AV) : optK (match o with | some y => some (y, S) | none => none) k = optV o S k := by cases o <;> rfl
theorem oi_mv {x : X} : optK (evIO e S (.mv x)) k = k (x.ev e) S := (rfl)
def pickV (c a b : AV) : Option AV := match c with
  | .b true => some a
  | .b false => some b
  | _ => none
theorem oi_pick {c a b : X} : optK (evIO e S (.pick c a b)) k = optV (pickV (c.ev e) (a.ev e) (b.ev e)) S k := by
  simp only [evIO, pickV]
  generalize c.ev e = y
  cases y with
  | b x => cases x <;> rfl
  | _ => rfl
theorem pickV_t {a b : AV} : pickV (.b true) a b = some a := (rfl)
theorem pickV_f {a b : AV} : pickV (.b false) a b = some b := (rfl)
theorem oi_fresh {z : List AV} : optK (evIO e S (.fresh z)) k = k (.p S.length 0 0) (S ++ [.cells z 0 none true]) := (rfl)
def boxV (S : Mem) (c : Option (List AV)) : Option (AV × Mem) := match c with
  | some cs => some (.p S.length 0 0, S ++ [.cells cs 0 none true])
  | none => none
theorem oi_box {x : X} : optK (evIO e S (.box x)) k = optK (boxV S (x.ev e).cells) k := (rfl)
theorem boxV_some {cs : List AV} : boxV S (some cs) = some (.p S.length 0 0, S ++ [.cells cs 0 none true]) := (rfl)
def agV (o : Option (List AV)) : Option AV := o.map .ag
theorem agV_some {cs : List AV} : agV (some cs) = some (.ag cs) := (rfl)
theorem oi_build {z : List AV} {ps : List (Nat × Nat × X)} : optK (evIO e S (.build z ps)) k = optV (agV (fillV z (evParts e ps))) S k := by
  simp only [evIO]; cases fillV z (evParts e ps) <;> rfl
def bsV (S : Mem) (len : Nat) (o : Option (List AV)) : Option (AV × Mem) := match o with
  | some r => some (.sl S.length 0 0 len len true, S ++ [.cells r 0 none true])
  | none => none
theorem bsV_some {len : Nat} {r : List AV} : bsV S len (some r) = some (.sl S.length 0 0 len len true, S ++ [.cells r 0 none true]) := (rfl)
theorem oi_bslice {z : List AV} {len : Nat} {ps : List (Nat × Nat × X)} : optK (evIO e S (.bslice z len ps)) k = optK (bsV S len (fillV (zerosV z len) (evParts e ps))) k := (rfl)
theorem oi_load {n : Option Nat} {x : X} : optK (evIO e S (.load n x)) k = optV (ldCells S n (x.ev e)) S k := oK _
theorem oi_store {n : Nat} {x y : X} : optK (evIO e S (.store n x y)) k = optM (stCells S n (x.ev e) (y.ev e)) .u k := by
  simp only [evIO]; cases stCells S n (x.ev e) (y.ev e) <;> rfl
theorem oi_nilck {x : X} : optK (evIO e S (.nilck x)) k = optV (nilV (x.ev e)) S k := oK _
theorem oi_bin {tk : TK} {c : Bool} {op : BinOp} {x y : X} : optK (evIO e S (.bin tk c op x y)) k = optV (binV tk c op (x.ev e) (y.ev e)) S k := oK _
theorem oi_un {op : UnOp} {x : X} : optK (evIO e S (.un op x)) k = optV (unV op (x.ev e)) S k := oK _
theorem oi_toInt {q : IntKind} {x : X} : optK (evIO e S (.toInt q x)) k = optV (toIntV q (x.ev e)) S k := oK _
theorem oi_faddr {o : Nat} {x : X} : optK (evIO e S (.faddr o x)) k = optV (faddrV o (x.ev e)) S k := oK _
theorem oi_fld {o : Nat} {n : Option Nat} {x : X} : optK (evIO e S (.fld o n x)) k = optV (fldV o n (x.ev e)) S k := oK _
theorem oi_iaddr {a : Option Nat} {s : Nat} {x y : X} : optK (evIO e S (.iaddr a s x y)) k = optV (iaddrV a s (x.ev e) (y.ev e)) S k := oK _
theorem oi_ixa {l s : Nat} {m : Option Nat} {x y : X} : optK (evIO e S (.ixa l s m x y)) k = optV (ixaV l s m (x.ev e) (y.ev e)) S k := oK _
theorem oi_ixs {x y : X} : optK (evIO e S (.ixs x y)) k = optV (ixsV (x.ev e) (y.ev e)) S k := oK _
theorem oi_slice {s : Nat} {x : X} {a b c : Option X} : optK (evIO e S (.slice s x a b c)) k = optV (sliceV S s (x.ev e) (a.map (·.ev e)) (b.map (·.ev e)) (c.map (·.ev e))) S k := oK _
theorem oi_sla {n s : Nat} {x : X} {a b c : Option X} : optK (evIO e S (.sla n s x a b c)) k = optV (slaV n s (x.ev e) (a.map (·.ev e)) (b.map (·.ev e)) (c.map (·.ev e))) S k := oK _
theorem oi_sls {x : X} {a b : Option X} : optK (evIO e S (.sls x a b)) k = optV (slsV (x.ev e) (a.map (·.ev e)) (b.map (·.ev e))) S k := oK _
theorem oi_ext {x : X} {n : Nat} : optK (evIO e S (.ext x n)) k = optV (extV n (x.ev e)) S k := oK _
theorem oi_mkf {fn : Fn} {a b : List X} : optK (evIO e S (.mkf fn a b)) k = k (.f fn (a.map (·.ev e)) (b.map (·.ev e))) S := (rfl)
def mksV (S : Mem) (z : List AV) (bytes : Nat) (l c : Option Nat) : Option (AV × Mem) := match l, c with
  | some l, some c => if l ≤ c ∧ bytes * c ≤ 140737488355328 ∧ c ≤ 140737488355328 then some (.sl S.length 0 0 l c true, S ++ [.cells (zerosV z c) 0 none true]) else none
  | _, _ => none
theorem oi_mks {z : List AV} {b : Nat} {l c : X} : optK (evIO e S (.mks z b l c)) k = optK (mksV S z b (natV (l.ev e)) (natV (c.ev e))) k := (rfl)
theorem mksV_some {z : List AV} {b l c : Nat} : mksV S z b (some l) (some c) = if l ≤ c ∧ b * c ≤ 140737488355328 ∧ c ≤ 140737488355328 then some (.sl S.length 0 0 l c true, S ++ [.cells (zerosV z c) 0 none true]) else none := (rfl)
def lenQ (q : LK) (S : Mem) (x : AV) : Option AV := if lenOk q x then (lenV S x).map fun n => .i .i64 n else none
theorem oi_len {q : LK} {x : X} : optK (evIO e S (.len q x)) k = optV (lenQ q S (x.ev e)) S k := by
  simp only [evIO, lenQ]; split
  · cases lenV S (x.ev e) <;> rfl
  · rfl
theorem lenQ_s {l : List UInt8} : lenQ .str S (.s l) = some (.i .i64 l.length) := (rfl)
theorem lenQ_sn : lenQ .slice S .sn = some (.i .i64 0) := (rfl)
theorem lenQ_se : lenQ .slice S .se = some (.i .i64 0) := (rfl)
theorem lenQ_sl {i o v l c : Nat} {x : Bool} : lenQ .slice S (.sl i o v l c x) = some (.i .i64 l) := (rfl)
def copyQ (o : Option (Nat × Mem)) : Option (AV × Mem) := o.map fun p => (.i .i64 p.1, p.2)
theorem copyQ_some {n : Nat} : copyQ (some (n, S)) = some (.i .i64 n, S) := (rfl)
theorem oi_copy {s : Nat} {x y : X} : optK (evIO e S (.copy s x y)) k = optK (copyQ (copyV S s (x.ev e) (y.ev e))) k := by
  simp only [evIO, copyQ]; cases copyV S s (x.ev e) (y.ev e) <;> rfl
def appQ (S : Mem) (s b : Nat) (x : AV) (o : Option (List AV × Nat)) : Option (AV × Mem) := match o with
  | some p => appV S s b x p.1 p.2
  | none => none
theorem oi_app {s b : Nat} {x y : X} : optK (evIO e S (.app s b x y)) k = optK (appQ S s b (x.ev e) (srcV S s (y.ev e))) k := by
  simp only [evIO, appQ]; cases srcV S s (y.ev e) <;> rfl
theorem appQ_some {s b n : Nat} {x : AV} {cs : List AV} : appQ S s b x (some (cs, n)) = appV S s b x cs n := (rfl)
def mmQ (m : Bool) (xs : List AV) : Option AV := match xs with
  | x :: r => mmV m x r
  | [] => none
theorem oi_mm {m : Bool} {xs : List X} : optK (evIO e S (.mm m xs)) k = optV (mmQ m (xs.map (·.ev e))) S k := by
  simp only [evIO, mmQ]
  generalize xs.map (·.ev e) = l
  cases l with
  | nil => rfl
  | cons x r => exact oK _
theorem mmQ_max {q : IntKind} {a b : Int} : mmQ true [.i q a, .i q b] = some (.i q (max a b)) := by
  simp only [mmQ, mmV, if_true]; congr 2; rw [Int.max_def]; split <;> split <;> omega
theorem mmQ_min {q : IntKind} {a b : Int} : mmQ false [.i q a, .i q b] = some (.i q (min a b)) := by
  simp only [mmQ, mmV, if_true]; congr 2; rw [Int.min_def]; simp; split <;> split <;> omega
theorem oi_eqag {n : Bool} {ks : List TK} {x y : X} : optK (evIO e S (.eqag n ks x y)) k = optV (eqAgV n ks (x.ev e) (y.ev e)) S k := oK _
def sameV (x : AV) : Option AV := match x with
  | .s l => some (.s l)
  | _ => none
theorem oi_same {x : X} : optK (evIO e S (.same x)) k = optV (sameV (x.ev e)) S k := by
  simp only [evIO, sameV]
  generalize x.ev e = y
  cases y <;> rfl
theorem sameV_s {l : List UInt8} : sameV (.s l) = some (.s l) := (rfl)
theorem oi_toStr {x : X} : optK (evIO e S (.toStr x)) k = optV (toStrV S (x.ev e)) S k := oK _
def toBytesV (S : Mem) (x : AV) : Option (AV × Mem) := match x with
  | .s l => some (if l.length = 0 then .se else .sl S.length 0 0 l.length l.length false, S ++ [.cells (l.map fun b => .i .u8 b.toNat) 0 (some 1) true])
  | _ => none
theorem oi_toBytes {x : X} : optK (evIO e S (.toBytes x)) k = optK (toBytesV S (x.ev e)) k := by
  simp only [evIO, toBytesV]
  generalize x.ev e = y
  cases y <;> rfl
theorem oi_clear {z : List AV} {x : X} : optK (evIO e S (.clear z x)) k = optK (clearV S z (x.ev e)) k := (rfl)
def ixbyteV (x y : AV) : Option AV := match x, y with
  | .s l, .i .u8 c => some (.i .i64 (Lib.indexByte l c.toNat.toUInt8))
  | _, _ => none
theorem oi_ixbyte {x y : X} : optK (evIO e S (.ixbyte x y)) k = optV (ixbyteV (x.ev e) (y.ev e)) S k := by
  simp only [evIO, ixbyteV]
  generalize x.ev e = a
  generalize y.ev e = b
  cases a <;> first | rfl | skip
  all_goals (cases b <;> first | rfl | skip)
  all_goals (rename_i k n; cases k <;> rfl)
theorem ixbyteV_s {l : List UInt8} {c : Int} : ixbyteV (.s l) (.i .u8 c) = some (.i .i64 (Lib.indexByte l c.toNat.toUInt8)) := (rfl)
def ovlV (S : Mem) (x y : AV) : Option AV := match x, y with
  | .sl i o v _ _ _, .sl j _ v2 _ _ _ => if i ≠ j ∧ apartB (S[i]?) (S[j]?) o v v2 = true then some (.b false) else none
  | _, _ => none
theorem oi_ovl {x y : X} : optK (evIO e S (.ovl x y)) k = optV (ovlV S (x.ev e) (y.ev e)) S k := by
  simp only [evIO, ovlV]
  generalize x.ev e = a
  generalize y.ev e = b
  cases a <;> first | rfl | skip
  all_goals (cases b <;> first | rfl | skip)
  rename_i i o v l c ex j o2 v2 l2 c2 ex2
  by_cases hc : i ≠ j ∧ apartB (S[i]?) (S[j]?) o v v2 = true
  · simp only [if_pos hc]; rfl
  · simp only [if_neg hc]; rfl
def mknoV (S : Mem) (x : AV) : Option (AV × Mem) := match x with
  | .i .i64 z => if 0 < z ∧ z ≤ 140737488355328 then some (.sl S.length 0 0 z.toNat z.toNat false, S ++ [.cells (List.replicate z.toNat .u) 0 (some 1) true]) else none
  | _ => none
theorem oi_mkno {x : X} : optK (evIO e S (.mkno x)) k = optK (mknoV S (x.ev e)) k := by
  simp only [evIO, mknoV]
  generalize x.ev e = y
  cases y <;> first | rfl | skip
  all_goals (rename_i q z; cases q <;> rfl)
def capQ (x : AV) : Option AV := (capV x).map fun n => .i .i64 n
theorem oi_cap {x : X} : optK (evIO e S (.cap x)) k = optV (capQ (x.ev e)) S k := by
  simp only [evIO, capQ]; cases capV (x.ev e) <;> rfl
def mkmapV (S : Mem) (h : Option AV) : Option (AV × Mem) := match h with
  | none => some (.m S.length, S ++ [.map [] 0])
  | some (.i _ _) => some (.m S.length, S ++ [.map [] 0])
  | _ => none
theorem oi_mkmap {h : Option X} : optK (evIO e S (.mkmap h)) k = optK (mkmapV S (h.map (·.ev e))) k := by
  simp only [evIO, mkmapV]
  generalize h.map (·.ev e) = y
  cases y with
  | none => rfl
  | some y => cases y <;> rfl
theorem mkmapV_none : mkmapV S none = some (.m S.length, S ++ [.map [] 0]) := (rfl)
theorem mkmapV_some {q : IntKind} {n : Int} : mkmapV S (some (.i q n)) = some (.m S.length, S ++ [.map [] 0]) := (rfl)
theorem oi_mlook {ag : Bool} {ks : List TK} {z : AV} {ok : Bool} {x y : X} : optK (evIO e S (.mlook ag ks z ok x y)) k = optV (mlookV S ag ks z ok (x.ev e) (y.ev e)) S k := oK _
theorem oi_mentry {ag : Bool} {ks : List TK} {z : AV} {x y : X} : optK (evIO e S (.mentry ag ks z x y)) k = optK (mentryV S ag ks z (x.ev e) (y.ev e)) k := (rfl)
theorem oi_mstore {x s v : X} : optK (evIO e S (.mstore x s v)) k = optM (mstoreV S (x.ev e) (s.ev e) (v.ev e)) .u k := by
  simp only [evIO]; cases mstoreV S (x.ev e) (s.ev e) (v.ev e) <;> rfl
theorem oi_mupd {ag : Bool} {ks : List TK} {x y v : X} : optK (evIO e S (.mupd ag ks x y v)) k = optM (mupdV S ag ks (x.ev e) (y.ev e) (v.ev e)) .u k := by
  simp only [evIO]; cases mupdV S ag ks (x.ev e) (y.ev e) (v.ev e) <;> rfl
theorem oi_mdel {ag : Bool} {ks : List TK} {x y : X} : optK (evIO e S (.mdel ag ks x y)) k = optM (mdelV S ag ks (x.ev e) (y.ev e)) (.tu []) k := by
  simp only [evIO]; cases mdelV S ag ks (x.ev e) (y.ev e) <;> rfl

/-! ### Values -/
theorem bin_i {cst : Bool} {op : BinOp} {q : IntKind} {a b : Int} (h : isShift op = false) : binV .int cst op (.i q a) (.i q b) = intV op q a b := by simp [binV, h]
theorem bin_add {cst : Bool} {q : IntKind} {a b : Int} : binV .int cst .add (.i q a) (.i q b) = some (.i q (wrapV q (a + b))) := bin_i rfl
theorem bin_sub {cst : Bool} {q : IntKind} {a b : Int} : binV .int cst .sub (.i q a) (.i q b) = some (.i q (wrapV q (a - b))) := bin_i rfl
theorem bin_mul {cst : Bool} {q : IntKind} {a b : Int} : binV .int cst .mul (.i q a) (.i q b) = some (.i q (wrapV q (a * b))) := bin_i rfl
theorem bin_quo {cst : Bool} {q : IntKind} {a b : Int} (h : b ≠ 0) : binV .int cst .quo (.i q a) (.i q b) = some (.i q (wrapV q (a.tdiv b))) := by rw [bin_i rfl]; simp [intV, h]
theorem bin_rem {cst : Bool} {q : IntKind} {a b : Int} (h : b ≠ 0) : binV .int cst .rem (.i q a) (.i q b) = some (.i q (a.tmod b)) := by rw [bin_i rfl]; simp [intV, h]
theorem bin_rem_pos {cst : Bool} {q : IntKind} {a b : Int} (ha : 0 ≤ a) (h : 0 < b) : binV .int cst .rem (.i q a) (.i q b) = some (.i q (a % b)) := by
  rw [bin_rem (by omega), Int.tmod_eq_emod_of_nonneg ha]
theorem bin_quo_pos {cst : Bool} {q : IntKind} {a b : Int} (ha : 0 ≤ a) (h : 0 < b) : binV .int cst .quo (.i q a) (.i q b) = some (.i q (wrapV q (a / b))) := by
  rw [bin_quo (by omega), Int.tdiv_eq_ediv_of_nonneg ha]
theorem bin_eql {cst : Bool} {q : IntKind} {a b : Int} : binV .int cst .eql (.i q a) (.i q b) = some (.b (decide (a = b))) := by
  rw [bin_i rfl]; simp only [intV]; congr 2
theorem bin_neq {cst : Bool} {q : IntKind} {a b : Int} : binV .int cst .neq (.i q a) (.i q b) = some (.b (decide (a ≠ b))) := by
  rw [bin_i rfl]; simp only [intV]; congr 2; simp [bne]; rfl
theorem bin_lss {cst : Bool} {q : IntKind} {a b : Int} : binV .int cst .lss (.i q a) (.i q b) = some (.b (decide (a < b))) := bin_i rfl
theorem bin_leq {cst : Bool} {q : IntKind} {a b : Int} : binV .int cst .leq (.i q a) (.i q b) = some (.b (decide (a ≤ b))) := bin_i rfl
theorem bin_gtr {cst : Bool} {q : IntKind} {a b : Int} : binV .int cst .gtr (.i q a) (.i q b) = some (.b (decide (b < a))) := bin_i rfl
theorem bin_geq {cst : Bool} {q : IntKind} {a b : Int} : binV .int cst .geq (.i q a) (.i q b) = some (.b (decide (b ≤ a))) := bin_i rfl
theorem bin_shl {cst : Bool} {q q' : IntKind} {a b : Int} : binV .int cst .shl (.i q a) (.i q' b) = shiftV .shl q a b := by simp [binV, isShift]
theorem bin_shr {cst : Bool} {q q' : IntKind} {a b : Int} : binV .int cst .shr (.i q a) (.i q' b) = shiftV .shr q a b := by simp [binV, isShift]
theorem bin_beql {cst : Bool} {a b : Bool} : binV .bool cst .eql (.b a) (.b b) = some (.b (decide (a = b))) := by
  simp only [binV, eqOp]; congr 2
theorem bin_bneq {cst : Bool} {a b : Bool} : binV .bool cst .neq (.b a) (.b b) = some (.b (decide (a ≠ b))) := by
  simp only [binV, eqOp]; congr 2; cases a <;> cases b <;> rfl
theorem bin_seql {cst : Bool} {a b : List UInt8} : binV .str cst .eql (.s a) (.s b) = some (.b (decide (a = b))) := by
  have h : (a == b) = decide (a = b) := by rw [Bool.eq_iff_iff]; simp
  simp only [binV, strV, h]
theorem bin_sneq {cst : Bool} {a b : List UInt8} : binV .str cst .neq (.s a) (.s b) = some (.b (decide (a ≠ b))) := by
  have h : (a == b) = decide (a = b) := by rw [Bool.eq_iff_iff]; simp
  simp only [binV, strV, h, ne_eq, decide_not]
theorem un_not_true : unV .not (.b true) = some (.b false) := (rfl)
theorem un_not_false : unV .not (.b false) = some (.b true) := (rfl)
theorem un_not_dec {p : Prop} [Decidable p] : unV .not (.b (decide p)) = some (.b (decide (¬ p))) := by simp [unV]
theorem un_neg {q : IntKind} {n : Int} : unV .neg (.i q n) = some (.i q (wrapV q (0 - n))) := by rw [unV]; congr 2; exact wrapV_eq q _
theorem nilV_p {i o v : Nat} : nilV (.p i o v) = some (.p i o v) := (rfl)
theorem nilV_f {f : FuncId} {a b : List AV} : nilV (.f (.func f) a b) = some (.f (.func f) a b) := (rfl)
theorem nilV_y {i : Nat} : nilV (.y i) = some (.y i) := (rfl)
theorem toInt_i {q q' : IntKind} {n : Int} : toIntV q (.i q' n) = some (.i q (wrapV q n)) := by rw [toIntV]; congr 2; exact wrapV_eq q n
theorem faddr_p {o i o' v : Nat} : faddrV o (.p i o' v) = some (.p i (o' + o) v) := (rfl)
theorem fld_ag {o : Nat} {n : Option Nat} {cs : List AV} : fldV o n (.ag cs) = partV o n cs := (rfl)
theorem part_none {o : Nat} {cs : List AV} : partV o none cs = cs[o]? := (rfl)
theorem part_some {o n : Nat} {cs : List AV} : partV o (some n) cs = if o + n ≤ cs.length then some (.ag ((cs.drop o).take n)) else none := (rfl)
theorem ext_tu {n : Nat} {cs : List AV} : extV n (.tu cs) = cs[n]? := (rfl)
theorem natV_i {q : IntKind} {n : Int} (h : 0 ≤ n) : natV (.i q n) = some n.toNat := by simp [natV, h]
theorem natV_nat {q : IntKind} {n : Nat} : natV (.i q (n : Int)) = some n := by simp [natV]
theorem cells_i {q : IntKind} {n : Int} : AV.cells (.i q n) = some [.i q n] := (rfl)
theorem cells_b {x : Bool} : AV.cells (.b x) = some [.b x] := (rfl)
theorem cells_s {l : List UInt8} : AV.cells (.s l) = some [.s l] := (rfl)
theorem cells_p {i o v : Nat} : AV.cells (.p i o v) = some [.p i o v] := (rfl)
theorem cells_pn : AV.cells .pn = some [.pn] := (rfl)
theorem cells_sn : AV.cells .sn = some [.sn] := (rfl)
theorem cells_se : AV.cells .se = some [.se] := (rfl)
theorem cells_sl {i o v l c : Nat} {x : Bool} : AV.cells (.sl i o v l c x) = some [.sl i o v l c x] := (rfl)
theorem cells_ag {cs : List AV} : AV.cells (.ag cs) = some cs := (rfl)
theorem cells_f {fn : Fn} {a b : List AV} : AV.cells (.f fn a b) = some [.f fn a b] := (rfl)
theorem cells_m {i : Nat} : AV.cells (.m i) = some [.m i] := (rfl)
theorem cells_mn : AV.cells .mn = some [.mn] := (rfl)
theorem one_i {q : IntKind} {n : Int} : AV.one (.i q n) = true := (rfl)
theorem one_b {x : Bool} : AV.one (.b x) = true := (rfl)
theorem one_s {l : List UInt8} : AV.one (.s l) = true := (rfl)
theorem one_p {i o v : Nat} : AV.one (.p i o v) = true := (rfl)
theorem one_pn : AV.one .pn = true := (rfl)
theorem one_sn : AV.one .sn = true := (rfl)
theorem one_se : AV.one .se = true := (rfl)
theorem one_sl {i o v l c : Nat} {x : Bool} : AV.one (.sl i o v l c x) = true := (rfl)
theorem one_f {fn : Fn} {a b : List AV} : AV.one (.f fn a b) = true := (rfl)
theorem one_m {i : Nat} : AV.one (.m i) = true := (rfl)
theorem one_mn : AV.one .mn = true := (rfl)

/-! ### Memory -/
def cellB (o : Option Blk) (off v : Nat) : Option AV := match o with
  | some (.cells cs ver _ _) => if ver = v then cs[off]? else none
  | _ => none
def rowB (o : Option Blk) (off v n : Nat) : Option (List AV) := match o with
  | some (.cells cs ver _ _) => if ver = v ∧ off + n ≤ cs.length then some ((cs.drop off).take n) else none
  | _ => none
theorem cellB_some {cs : List AV} {v off : Nat} {op : Option Nat} {r : Bool} : cellB (some (.cells cs v op r)) off v = cs[off]? := by simp [cellB]
theorem rowB_some {cs : List AV} {v off n : Nat} {op : Option Nat} {r : Bool} : rowB (some (.cells cs v op r)) off v n = if off + n ≤ cs.length then some ((cs.drop off).take n) else none := by simp [rowB]
theorem rowAt_B {i o v n : Nat} : rowAt S i o v n = rowB (S[i]?) o v n := by
  unfold rowAt rowB; rfl
theorem ld_one {i o v : Nat} : ldCells S none (.p i o v) = cellB (S[i]?) o v := by
  simp only [ldCells, rowAt_B]
  cases S[i]? with
  | none => rfl
  | some B =>
    cases B with
    | cells cs ver op r =>
      simp only [rowB, cellB]
      by_cases hv : ver = v
      · by_cases h : o < cs.length
        · have e1 : (cs.drop o).take 1 = [cs[o]] := by rw [List.drop_eq_getElem_cons h]; rfl
          rw [if_pos ⟨hv, by omega⟩, if_pos hv, e1, List.getElem?_eq_getElem h]
        · rw [if_neg (by omega), if_pos hv, List.getElem?_eq_none (by omega)]
      · rw [if_neg (by omega), if_neg hv]
    | _ => rfl
theorem ld_row {i o v n : Nat} : ldCells S (some n) (.p i o v) = agV (rowB (S[i]?) o v n) := by simp only [ldCells, rowAt_B, agV]
def stB (S : Mem) (i : Nat) (o : Option Blk) (off v n : Nat) (ys : Option (List AV)) : Option Mem := match o, ys with
  | some (.cells cs ver op true), some ys => if ver = v ∧ ys.length = n ∧ off + n ≤ cs.length ∧ ys.all AV.one = true then some (S.set i (.cells (splice cs off ys) v op true)) else none
  | _, _ => none
theorem st_B {i o v n : Nat} {y : AV} : stCells S n (.p i o v) y = stB S i (S[i]?) o v n y.cells := by
  unfold stCells stB
  cases y.cells with
  | none => cases S[i]? with
    | none => rfl
    | some B => cases B with
      | cells cs ver op r => cases r <;> rfl
      | _ => rfl
  | some ys =>
    dsimp only
    cases S[i]? with
    | none => rfl
    | some B => cases B with
      | cells cs ver op r => cases r <;> rfl
      | _ => rfl
theorem stB_some {i off v n : Nat} {cs ys : List AV} {op : Option Nat} : stB S i (some (.cells cs v op true)) off v n (some ys) = if ys.length = n ∧ off + n ≤ cs.length ∧ ys.all AV.one = true then some (S.set i (.cells (splice cs off ys) v op true)) else none := by simp [stB]

theorem at_app {L : Mem} {n : Nat} : (S ++ L)[S.length + n]? = L[n]? := by rw [List.getElem?_append_right (by omega)]; congr 1; omega
theorem at_app0 {L : Mem} : (S ++ L)[S.length]? = L[0]? := at_app (n := 0)
theorem set_app {L : Mem} {n : Nat} {B : Blk} : (S ++ L).set (S.length + n) B = S ++ L.set n B := by
  rw [List.set_append_right _ _ (by omega)]; congr 2; omega
theorem set_app0 {L : Mem} {B : Blk} : (S ++ L).set S.length B = S ++ L.set 0 B := set_app (n := 0)
theorem at_old {L : Mem} {i : Nat} {B : Blk} (h : S[i]? = some B) : (S ++ L)[i]? = some B := grow_get h
theorem set_old {L : Mem} {i : Nat} {B B' : Blk} (h : S[i]? = some B) : (S ++ L).set i B' = S.set i B' ++ L :=
  List.set_append_left _ _ (List.getElem?_eq_some_iff.1 h).1
theorem at_set {i : Nat} {B B' : Blk} (h : S[i]? = some B) : (S.set i B')[i]? = some B' := by
  have := (List.getElem?_eq_some_iff.1 h).1
  simp [this]
theorem retK_ret {rs : List IR} {R : AV → Mem → Prop} {S1 : Mem} {xs : List AV} (h : evResults e S1 rs = some xs) (hR : R (resV xs) S1) : retK S0 rs R .ret e S1 [] := ⟨rfl, S1, xs, rfl, h, hR⟩
def resQ (o : Option (List AV)) (S : Mem) (R : AV → Mem → Prop) : Prop := match o with
  | some xs => R (resV xs) S
  | none => False
theorem ret_eq {rs : List IR} {R : AV → Mem → Prop} {S1 : Mem} : retK S0 rs R .ret e S1 [] = resQ (evResults e S1 rs) S1 R := by
  apply propext
  constructor
  · rintro ⟨_, S2, xs, h1, h2, h3⟩
    simp only [evLeave, Option.some.injEq] at h1
    subst h1
    simp only [resQ, h2]; exact h3
  · intro h
    unfold resQ at h
    split at h
    · rename_i xs hx; exact retK_ret hx h
    · exact h.elim
theorem ret_eq' {rs : List IR} {R : AV → Mem → Prop} {S1 : Mem} : retK S0 rs R .normal e S1 [] = resQ (evResults e S1 rs) S1 R := by
  rw [← ret_eq (S0 := S0)]; rfl
theorem resQ_some {xs : List AV} {R : AV → Mem → Prop} : resQ (some xs) S R = R (resV xs) S := (rfl)
def consQ (x : Option AV) (xs : Option (List AV)) : Option (List AV) := match x, xs with
  | some x, some xs => some (x :: xs)
  | _, _ => none
theorem res_nil : evResults e S [] = some [] := (rfl)
theorem res_cons {r : IR} {rs : List IR} : evResults e S (r :: rs) = consQ (evRes e S r) (evResults e S rs) := by
  simp only [evResults, consQ]
  cases evRes e S r <;> cases evResults e S rs <;> rfl
theorem consQ_some {x : AV} {xs : List AV} : consQ (some x) (some xs) = some (x :: xs) := (rfl)
theorem res_tmp {t : Nat} : evRes e S (.tmp t) = some (e.get t) := (rfl)
theorem res_cell {t : Nat} {n : Option Nat} : evRes e S (.cell t n) = ldCells S n (e.get t) := (rfl)
theorem resV_one {x : AV} : resV [x] = x := (rfl)
theorem resV_two {x y : AV} {r : List AV} : resV (x :: y :: r) = .tu (x :: y :: r) := (rfl)
theorem resV_nil : resV [] = .tu [] := (rfl)
theorem argsE_nil {n : Nat} : argsE n [] = [] := (rfl)
theorem argsE_cons {n : Nat} {x : AV} {r : List AV} : argsE n (x :: r) = (n, x) :: argsE (n + 1) r := (rfl)
theorem keepE_nil : keepE e [] = [] := (rfl)
theorem keepE_cons {t : Nat} {r : List Nat} : keepE e (t :: r) = (t, e.get t) :: keepE e r := (rfl)
theorem orc_cons {f g : FuncId} {s : Spec} {r : List (FuncId × Spec)} : (orcOf ((g, s) :: r)).fn f = if g = f then s else (orcOf r).fn f := by
  funext a S
  simp only [orcOf, List.find?_cons]
  by_cases h : g = f
  · simp [h]
  · have : (g == f) = false := by simpa using h
    simp [h, this]

/-! ### Flat values -/
end

/-- A number that fits is not turned. -/
theorem wrap_i64 {n : Int} (h1 : -9223372036854775808 ≤ n) (h2 : n ≤ 9223372036854775807) : wrapV .i64 n = n := by simp only [wrapV]; omega
theorem wrap_u64 {n : Int} (h1 : 0 ≤ n) (h2 : n ≤ 18446744073709551615) : wrapV .u64 n = n := by simp only [wrapV]; omega
theorem wrap_u32 {n : Int} (h1 : 0 ≤ n) (h2 : n ≤ 4294967295) : wrapV .u32 n = n := by simp only [wrapV]; omega
theorem wrap_u8 {n : Int} (h1 : 0 ≤ n) (h2 : n ≤ 255) : wrapV .u8 n = n := by simp only [wrapV]; omega
theorem iaddr_i {l s i o v : Nat} {q : IntKind} {n : Int} (h0 : 0 ≤ n) (h : n.toNat < l) : iaddrV (some l) s (.p i o v) (.i q n) = some (.p i (o + n.toNat * s) v) := by simp [iaddrV, natV_i h0, h]
theorem iaddr_sl_i {s i o v l c : Nat} {x : Bool} {q : IntKind} {n : Int} (h0 : 0 ≤ n) (h : n.toNat < l) : iaddrV none s (.sl i o v l c x) (.i q n) = some (.p i (o + n.toNat * s) v) := by simp [iaddrV, natV_i h0, h]
theorem fillV_nil {z : List AV} : fillV z [] = some z := (rfl)
def fillQ (z : List AV) (off n : Nat) (ys : Option (List AV)) (r : List (Nat × Nat × AV)) : Option (List AV) := match ys with
  | some ys => if ys.length = n ∧ off + n ≤ z.length then fillV (splice z off ys) r else none
  | none => none
theorem fillV_cons {z : List AV} {off n : Nat} {x : AV} {r : List (Nat × Nat × AV)} : fillV z ((off, n, x) :: r) = fillQ z off n x.cells r := (rfl)
theorem fillQ_some {z : List AV} {off n : Nat} {ys : List AV} {r : List (Nat × Nat × AV)} : fillQ z off n (some ys) r = if ys.length = n ∧ off + n ≤ z.length then fillV (splice z off ys) r else none := (rfl)
theorem parts_nil {e : Env} : evParts e [] = [] := (rfl)
theorem parts_cons {e : Env} {a b : Nat} {x : X} {r : List (Nat × Nat × X)} : evParts e ((a, b, x) :: r) = (a, b, x.ev e) :: evParts e r := (rfl)
theorem splice_eq {cs xs : List AV} {o : Nat} : splice cs o xs = cs.take o ++ (xs ++ cs.drop (o + xs.length)) := (rfl)
theorem zerosV_one {z : AV} {n : Nat} : zerosV [z] n = List.replicate n z := by
  simp only [zerosV, List.length_singleton, Nat.mul_one]
  apply List.ext_getElem (by simp)
  intro k h1 h2
  simp [Nat.mod_one]
theorem all_nil {p : AV → Bool} : List.all [] p = true := (rfl)
theorem all_cons {p : AV → Bool} {x : AV} {r : List AV} : List.all (x :: r) p = (p x && List.all r p) := (rfl)
attribute [go_sem] W_skip W_region W_live W_seq W_cond W_block W_exit W_ret W_goto normK_app blockK_exit_same blockK_normal blockK_ret blockK_goto blockK_exit seqK_normal seqK_ret seqK_exit seqK_goto wCond_true wCond_false wCond_dec
  loopK_normal loopK_ret loopK_exit loopK_goto jumpK_normal jumpK_ret jumpK_exit jumpK_goto
  wOps_nil wOps_op wOps_gd opsK_some opsK_none gA_app gB_some gB_none wGd_tt wGd_tf wGd_ft wGd_ff wGd_dect wGd_decf wGd_ud
  wFl_nil wFl_op wFl_m wFl_gd wFl_gm flK_some flK_none flM_some flM_none fA_app fAM_app fB_some fB_none pre_same pre_app Option.toList List.nil_append List.cons_append List.append_nil List.append_assoc List.map_cons List.map_nil true_and and_true
  evOp_op evOp_call evOp_callv optK_some optV_some optM_some xev_t xev_c get_ite get_nil oi_mv oi_pick pickV_t pickV_f oi_fresh oi_box boxV_some oi_build agV_some oi_bslice bsV_some oi_load oi_store oi_nilck oi_bin oi_un oi_toInt oi_faddr oi_fld oi_iaddr oi_ixa oi_ixs oi_slice oi_sla oi_sls oi_ext oi_mkf oi_mks mksV_some oi_len lenQ_s lenQ_sn lenQ_se lenQ_sl oi_copy copyQ_some oi_app appQ_some oi_mm mmQ_max mmQ_min oi_eqag oi_same sameV_s oi_toStr oi_toBytes oi_clear oi_ixbyte ixbyteV_s oi_ovl oi_mkno oi_cap oi_mkmap mkmapV_none mkmapV_some oi_mlook oi_mentry oi_mstore oi_mupd oi_mdel
  bin_add bin_sub bin_mul bin_rem_pos bin_quo_pos wrap_i64 wrap_u64 wrap_u32 wrap_u8 bin_eql bin_neq bin_lss bin_leq bin_gtr bin_geq bin_shl bin_shr bin_beql bin_bneq bin_seql bin_sneq un_not_true un_not_false un_not_dec un_neg nilV_p nilV_f nilV_y toInt_i faddr_p fld_ag part_none part_some ext_tu natV_nat
  cells_i cells_b cells_s cells_p cells_pn cells_sn cells_se cells_sl cells_ag cells_f cells_m cells_mn one_i one_b one_s one_p one_pn one_sn one_se one_sl one_f one_m one_mn
  rowAt_B ld_one ld_row st_B cellB_some rowB_some stB_some at_app at_app0 set_app set_app0 List.getElem?_cons_zero List.getElem?_cons_succ List.set_cons_zero List.set_cons_succ
  fillV_nil fillV_cons fillQ_some parts_nil parts_cons splice_eq zerosV_one all_nil all_cons Bool.and_true Bool.true_and Bool.and_self eq_self List.length_cons List.length_nil List.length_append List.take_zero List.drop_zero List.take_succ_cons List.drop_succ_cons List.take_nil List.drop_nil Nat.zero_add Nat.add_zero
  ret_eq ret_eq' resQ_some res_nil res_cons consQ_some res_tmp res_cell resV_one resV_two resV_nil argsE_nil argsE_cons keepE_nil keepE_cons
end Go.Proofs.YtmolaemlenllmaaGreat

namespace Go.Proofs.YtmolaemlenllmaaGreat
set_option linter.unusedSimpArgs false
set_option linter.unusedVariables false
open Go.RowKit

/-! ### The memory that was there -/
def isCells : Obj → Bool
  | .cells .. => true
  | _ => false

/-- The blocks of cells. -/
def cellBlocks (w : World) : List Nat := (List.range w.heap.size).filter fun b => match w.heap[b]? with | some o => isCells o | none => false
/-- A block's number in the abstract memory. -/
def numOf (w : World) (b : Nat) : Option Nat := (cellBlocks w).findIdx? (· == b)

def absV (w : World) : Value → AV
  | .bool x => .b x
  | .int k n => .i k n
  | .string s => .s s.data.toList
  | .pointer none => .pn
  | .pointer (some ⟨b, o, none⟩) => match numOf w b with
    | some i => .p i o 0
    | none => .u
  | .slice none 0 0 => .sn
  | .slice (some ⟨b, o, sp⟩) l c => if l = 0 ∧ c = 0 then .se else match numOf w b, sp with
    | some i, none => if l ≤ c then .sl i o 0 l c true else .u
    | _, _ => .u
  | .nilFunc => .nf
  | .nilIface => .ni
  | .map none => .mn
  | _ => .u

def absB (w : World) (b : Nat) : Blk := match w.heap[b]? with
  | some (.cells c _ _) => .cells (c.toList.map (absV w)) 0 none false
  | _ => .cells [] 0 none false
def absS (w : World) : Mem := (cellBlocks w).map (absB w)
def absK (w : World) : Ctx := ⟨fun i => (cellBlocks w).getD i 0, fun i => match w.heap[(cellBlocks w).getD i 0]? with
  | some (.cells c _ _) => c.size
  | _ => 0⟩

theorem numOf_at {w : World} {b i : Nat} (h : numOf w b = some i) : (cellBlocks w)[i]? = some b := by
  obtain ⟨hlt, h1⟩ := List.findIdx?_eq_some_iff_getElem.1 h
  have := h1.1
  simp only [beq_iff_eq] at this
  rw [List.getElem?_eq_getElem hlt, this]

theorem mem_cellBlocks {w : World} {b : Nat} : b ∈ cellBlocks w ↔ ∃ c et fz, w.heap[b]? = some (.cells c et fz) := by
  simp only [cellBlocks, List.mem_filter, List.mem_range]
  constructor
  · rintro ⟨hb, h⟩
    split at h
    · rename_i o ho
      cases o with
      | cells c et fz => exact ⟨c, et, fz, ho⟩
      | _ => cases h
    · cases h
  · rintro ⟨c, et, fz, h⟩
    exact ⟨(Array.getElem?_eq_some_iff.1 h).1, by rw [h]; rfl⟩

theorem numOf_some {w : World} {b : Nat} {c : Array Value} {et : TypeId} {fz : Nat × Nat} (h : w.heap[b]? = some (.cells c et fz)) : ∃ i, numOf w b = some i := by
  have hm : b ∈ cellBlocks w := mem_cellBlocks.2 ⟨c, et, fz, h⟩
  cases hn : numOf w b with
  | some i => exact ⟨i, rfl⟩
  | none =>
    exfalso
    unfold numOf at hn
    rw [List.findIdx?_eq_none_iff] at hn
    have := hn b hm
    simp at this

theorem abs_at {w : World} {b i : Nat} (h : numOf w b = some i) : (absS w)[i]? = some (absB w b) := by
  rw [absS, List.getElem?_map, numOf_at h]; rfl
theorem abs_mu {w : World} {b i : Nat} (h : numOf w b = some i) : (absK w).μ i = b := by
  show (cellBlocks w).getD i 0 = b
  rw [List.getD_eq_getElem?_getD, numOf_at h]; rfl
theorem absV_ok (w : World) (v : Value) : VR (absK w) (absS w) (absV w v) v := by
  unfold absV
  split
  · exact .b _
  · exact .i _ _
  · rename_i s; have := VR.s (K := absK w) (S := absS w) s.data.toList; simpa using this
  · exact .pn
  · split
    · rename_i i hi
      exact .p i _ 0 _ _ (abs_at hi) (Nat.zero_le _) fun _ => by rw [abs_mu hi]
    · exact .u _
  · exact .sn
  · split
    · rename_i hc; rw [hc.1]; exact .se _ _
    · split
      · rename_i i hi
        split
        · rename_i hl
          exact .sl i _ 0 _ _ true _ _ _ (abs_at hi) (Nat.zero_le _) hl (Nat.le_refl _) (fun _ => rfl) fun _ => ⟨by rw [abs_mu hi], fun e => by cases e⟩
        · exact .u _
      · exact .u _
  · exact .nf
  · exact .ni
  · exact .mn
  · exact .u _

theorem Sim.entry (Λ : Nat → List Bool → Option (Array Tmp × Code × Code × Nat)) (w : World) (hd : Door w.heap.size w) : Sim ⟨w.heap.size, Λ⟩ w (absK w) (absS w) w := by
  refine ⟨fun i B hB => ?_, fun i j hi hj e => ?_, Below.refl _ _, Nat.le_refl _, hd⟩
  · rw [absS, List.getElem?_map] at hB
    obtain ⟨b, hb, rfl⟩ := Option.map_eq_some_iff.1 hB
    obtain ⟨c, et, fz, hc⟩ := mem_cellBlocks.1 (List.mem_of_getElem? hb)
    have hm : (cellBlocks w).getD i 0 = b := by rw [List.getD_eq_getElem?_getD, hb]; rfl
    have hB' : absB w b = .cells (c.toList.map (absV w)) 0 none false := by unfold absB; rw [hc]
    rw [hB']
    refine ⟨c, et, fz, by show w.heap[(cellBlocks w).getD i 0]? = _; rw [hm]; exact hc, by show c.size = (match w.heap[(cellBlocks w).getD i 0]? with | some (.cells c _ _) => c.size | _ => 0); rw [hm, hc], by simp, fun _ => by simp, fun k hk => ?_, fun h => by cases h⟩
    simp only [List.length_map, Array.length_toList] at hk
    have e1 : (c.toList.map (absV w)).getD k .u = absV w (c.getD k undef) := by
      simp [List.getD_eq_getElem?_getD, Array.getD, hk]
    rw [e1]; exact absV_ok w _
  · simp only [absS, List.length_map] at hi hj
    have : (cellBlocks w)[i]'hi = (cellBlocks w)[j]'hj := by
      have e' : (cellBlocks w).getD i 0 = (cellBlocks w).getD j 0 := e
      simpa [List.getD_eq_getElem?_getD, hi, hj] using e'
    have hn : (cellBlocks w).Nodup := List.Pairwise.filter _ List.nodup_range
    exact (List.getElem_inj hn).1 this

/-- An argument. -/
def absA (w : World) (v : Value) : AV := match v with
  | .agg cs => .ag (cs.toList.map (absV w))
  | v => absV w v
theorem absA_ok (w : World) (v : Value) : VR (absK w) (absS w) (absA w v) v := by
  unfold absA
  split
  · rename_i cs
    refine .ag _ _ (by simp) fun k => ?_
    by_cases hk : k < cs.size
    · have e1 : (cs.toList.map (absV w)).getD k .u = absV w (cs.getD k undef) := by simp [List.getD_eq_getElem?_getD, Array.getD, hk]
      rw [e1]; exact absV_ok w _
    · have e1 : (cs.toList.map (absV w)).getD k .u = .u := by
        rw [List.getD_eq_getElem?_getD, List.getElem?_eq_none (by simp; omega)]; rfl
      rw [e1]; exact .u _
  · exact absV_ok w _

/-- A call at arguments as they lie. -/
theorem calls_of_fnOK {P : Program} {f : FuncId} {w : World} {vs : Array Value} {S' : Mem} (h : FnOK P f (vs.toList.map (absA w)) (absS w) (.b true) S') (hd : Door w.heap.size w := by exact Door.triv) : Calls P f vs w fun e w' => e = .returned (.bool true) ∧ Below w.heap.size w w' := by
  refine (h.2 ⟨w.heap.size, lamOf P⟩ w _ w vs rfl ⟨by simp, fun k hk hk' => ?_⟩ (Sim.entry _ w hd)).mono fun e w' hp => ?_
  · simp only [List.getElem_map]; exact absA_ok w _
  · obtain ⟨K', v, rfl, hV, hS, _⟩ := hp
    cases hV
    exact ⟨rfl, hS.below⟩

/-! ### What can be read -/
/-- The kinds of cells. -/
inductive CS where
  | int (k : IntKind)
  | bool
  | str
  | slice (e : TypeId)

def shapesFs (P : Program) (go : TypeId → Option (List CS)) : List Field → Nat → Option (List CS)
  | [], _ => some []
  | f :: fs, off => if f.offset = off then match go f.type with
    | some ks => if P.cellsOf f.type = ks.length then match shapesFs P go fs (off + ks.length) with
        | some r => some (ks ++ r)
        | none => none
      else none
    | none => none
  else none

/-- The cells of a type, in a row. -/
def shapes (P : Program) : Nat → TypeId → Option (List CS)
  | 0, _ => none
  | n + 1, t => match P.underlying t with
    | some (.int k) => some [.int k]
    | some .bool => some [.bool]
    | some .string => some [.str]
    | some (.slice e) => some [.slice e]
    | some (.struct fs) => match shapesFs P (shapes P n) fs.toList 0 with
      | some r => if P.cellsOf t = r.length then some r else none
      | none => none
    | some (.array len e) => match shapes P n e with
      | some ks => if P.cellsOf e = ks.length ∧ P.cellsOf t = len * ks.length then some (List.replicate len ks).flatten else none
      | none => none
    | _ => none

/-- What a cell holds, if it can be read. -/
def CellIs {H : Type} (enc : TypeId × Value → H) (P : Program) (w : World) : CS → Value → Prop
  | .int k, v => ∃ n, v = .int k n ∧ (Lit.int k n).wf = true
  | .bool, v => ∃ x, v = .bool x
  | .str, v => ∃ s, v = .string s ∧ s.size ≤ maxLen
  | .slice e, v => v = .slice none 0 0 ∨ ∃ a len cap, v = .slice (some a) len cap ∧ len ≤ cap ∧ cap ≤ maxLen ∧
      ∀ i, i < cap → ∃ cs, w.cells? 0 (a.add (i * P.cellsOf e)) (P.cellsOf e) = some cs ∧ ∃ fuel d ps, DataW.trod enc P w 0 (fun _ => true) true fuel e cs = some (d, ps)

def RowIs {H : Type} (enc : TypeId × Value → H) (P : Program) (w : World) (sh : List CS) (cs : List Value) : Prop := cs.length = sh.length ∧ ∀ i (h : i < sh.length) (h' : i < cs.length), CellIs enc P w sh[i] cs[i]

section
variable {H : Type} {enc : TypeId × Value → H} {P : Program} {w : World}

theorem RowIs.append {s1 s2 : List CS} {c1 c2 : List Value} (h1 : RowIs enc P w s1 c1) (h2 : RowIs enc P w s2 c2) : RowIs enc P w (s1 ++ s2) (c1 ++ c2) := by
  refine ⟨by simp [h1.1, h2.1], fun i h h' => ?_⟩
  have hl := h1.1
  by_cases e : i < s1.length
  · rw [List.getElem_append_left e, List.getElem_append_left (by omega)]
    exact h1.2 i e (by omega)
  · rw [List.getElem_append_right (by omega), List.getElem_append_right (by omega)]
    simp only [List.length_append] at h h'
    have := h2.2 (i - s1.length) (by omega) (by omega)
    simpa [hl] using this

theorem take_part (cs : List Value) (off n m : Nat) (h : m = n) : (cs.drop off).take m ++ cs.drop (off + n) = cs.drop off := by
  subst h
  rw [← List.drop_drop]
  exact List.take_append_drop _ _

theorem shapesFs_ok {go : TypeId → Option (List CS)} {fuel : Nat} (hgo : ∀ t cs x sh, DataW.trod enc P w 0 (fun _ => true) true fuel t cs = some x → go t = some sh → RowIs enc P w sh cs) {cs : List Value} :
    ∀ (fs : List Field) (off : Nat) (xs : List (DataW H × List MemPlace)) (sh : List CS), (fs.mapM fun f => DataW.trod enc P w 0 (fun _ => true) true fuel f.type ((cs.drop f.offset).take (P.cellsOf f.type))) = some xs → shapesFs P go fs off = some sh → off + sh.length = cs.length → RowIs enc P w sh (cs.drop off)
  | [], off, xs, sh, _, hs, hl => by
    obtain rfl : sh = [] := by simpa [shapesFs] using hs.symm
    have hl' : off = cs.length := hl
    exact ⟨by rw [hl']; simp, fun i h => absurd h (Nat.not_lt_zero i)⟩
  | f :: fs, off, xs, sh, hm, hs, hl => by
    simp only [List.mapM_cons, Option.bind_eq_bind, Option.bind_eq_some_iff, Option.pure_def, Option.some.injEq] at hm
    obtain ⟨x, hx, xs', hxs, rfl⟩ := hm
    simp only [shapesFs] at hs
    split at hs
    · rename_i hoff
      split at hs
      · rename_i ks hks
        split at hs
        · rename_i hsz
          split at hs
          · rename_i r hr
            injection hs with hs
            subst hs
            simp only [List.length_append] at hl
            have h1 := hgo _ _ _ _ hx hks
            have h2 := shapesFs_ok hgo fs (off + ks.length) xs' r hxs hr (by omega)
            have := h1.append h2
            rw [hoff, take_part cs off ks.length _ hsz] at this
            exact this
          · cases hs
        · cases hs
      · cases hs
    · cases hs

theorem shapesA_ok {ks : List CS} {cs : List Value} {m : Nat} (hm : m = ks.length) : ∀ (len off : Nat), (∀ i, i < len → RowIs enc P w ks ((cs.drop (off + i * m)).take m)) → cs.length = off + len * m → RowIs enc P w (List.replicate len ks).flatten (cs.drop off)
  | 0, off, _, hl => ⟨by simp at hl ⊢; omega, fun i h => by simp at h⟩
  | len + 1, off, h, hl => by
    rw [List.replicate_succ, List.flatten_cons]
    have h0 := h 0 (by omega)
    simp only [Nat.zero_mul, Nat.add_zero] at h0
    have h2 := shapesA_ok hm len (off + m) (fun i hi => by
      have := h (i + 1) (by omega)
      rwa [show off + (i + 1) * m = off + m + i * m by rw [Nat.add_mul]; omega] at this) (by rw [hl, Nat.add_mul]; omega)
    have := h0.append h2
    rw [take_part cs off m m rfl] at this
    exact this

theorem one_row {s : CS} {v : Value} (h : CellIs enc P w s v) : RowIs enc P w [s] [v] := ⟨rfl, fun i hi hi' => by
  obtain rfl : i = 0 := by simp at hi; omega
  exact h⟩

theorem shapes_ok : ∀ (n fuel : Nat) (t : TypeId) (cs : List Value) (x : DataW H × List MemPlace) (sh : List CS), DataW.trod enc P w 0 (fun _ => true) true fuel t cs = some x → shapes P n t = some sh → RowIs enc P w sh cs
  | 0, _, _, _, _, _, _, hs => by simp [shapes] at hs
  | n + 1, 0, _, _, _, _, h, _ => by simp [DataW.trod] at h
  | n + 1, fuel + 1, t, cs, x, sh, h, hs => by
    simp only [shapes] at hs
    split at hs
    · rename_i k hu
      injection hs with hs; subst hs
      unfold DataW.trod at h
      rw [hu] at h
      split at h <;> try (simp_all; done)
      rename_i k1 k' z e1
      simp only [Option.some.injEq, TypeDesc.int.injEq] at e1
      subst e1
      split at h
      · rename_i hc; obtain ⟨rfl, hw⟩ := hc; exact one_row ⟨z, rfl, hw⟩
      · cases h
    · rename_i hu
      injection hs with hs; subst hs
      unfold DataW.trod at h
      rw [hu] at h
      split at h <;> try (simp_all; done)
      exact one_row ⟨_, rfl⟩
    · rename_i hu
      injection hs with hs; subst hs
      unfold DataW.trod at h
      rw [hu] at h
      split at h <;> try (simp_all; done)
      split at h
      · rename_i hc; exact one_row ⟨_, rfl, hc⟩
      · cases h
    · rename_i e hu
      injection hs with hs; subst hs
      rcases DataW.trod_slice hu h with ⟨rfl, _⟩ | ⟨a, len, cap, elems, rest, m, hf, rfl, _, _, h1, h2, h3, h4, h5, _⟩
      · exact one_row (.inl rfl)
      · refine one_row (.inr ⟨a, len, cap, rfl, h1, h2, fun i hi => ?_⟩)
        obtain ⟨h5, h6⟩ := h5 rfl
        have key : ∃ y, (w.cells? 0 (a.add (i * P.cellsOf e)) (P.cellsOf e)).bind (DataW.trod enc P w 0 (fun _ => true) true m e) = some y := by
          by_cases hil : i < len
          · exact ⟨_, (h4 i hil).trans (List.getElem?_eq_getElem (by omega))⟩
          · have := h6 (i - len) (by omega)
            rw [show len + (i - len) = i by omega] at this
            exact ⟨_, this.trans (List.getElem?_eq_getElem (by omega))⟩
        obtain ⟨y, hy⟩ := key
        obtain ⟨cs, hcs, ht⟩ := Option.bind_eq_some_iff.1 hy
        exact ⟨cs, hcs, m, y.1, y.2, ht⟩
    · rename_i fs hu
      split at hs
      · rename_i r hr
        split at hs
        · rename_i hsz
          injection hs with hs; subst hs
          unfold DataW.trod at h
          rw [hu] at h
          split at h <;> try (simp_all; done)
          rename_i fs' _ e1
          simp only [Option.some.injEq, TypeDesc.struct.injEq] at e1
          subst e1
          split at h
          · rename_i hlen
            obtain ⟨xs, hxs, _⟩ := Option.map_eq_some_iff.1 h
            have := shapesFs_ok (fun t cs x sh h1 h2 => shapes_ok n fuel t cs x sh h1 h2) fs.toList 0 xs r hxs hr (by omega)
            simpa using this
          · cases h
        · cases hs
      · cases hs
    · rename_i len e hu
      split at hs
      · rename_i ks hks
        split at hs
        · rename_i hc
          injection hs with hs; subst hs
          unfold DataW.trod at h
          rw [hu] at h
          split at h <;> try (simp_all; done)
          rename_i n' e' cs' e1
          simp only [Option.some.injEq, TypeDesc.array.injEq] at e1
          obtain ⟨rfl, rfl⟩ := e1
          split at h
          · rename_i hlen
            obtain ⟨xs, hxs, _⟩ := Option.map_eq_some_iff.1 h
            have := shapesA_ok (enc := enc) (P := P) (w := w) (cs := _) hc.1 len 0 (fun i hi => by
              have h1 := mapM_some_get hxs i i (List.getElem?_range hi)
              have h2 := mapM_some_length hxs
              have h3 : i < xs.length := by rw [h2, List.length_range]; exact hi
              rw [List.getElem?_eq_getElem h3] at h1
              rw [Nat.zero_add]
              exact shapes_ok n fuel e _ _ ks h1 hks) (by rw [hlen, hc.2, hc.1]; omega)
            simpa using this
          · cases h
        · cases hs
      · cases hs
    · cases hs

/-- What is known of an argument. -/
theorem arg_row {t : TypeId} {v : Value} {d : DataW H} {ps : List MemPlace} {n : Nat} {sh : List CS} (h : DataW.Trod enc P w 0 (fun _ => true) true t v d ps) (hs : shapes P n t = some sh) : RowIs enc P w sh v.cells.toList := by
  obtain ⟨fuel, h⟩ := h
  exact shapes_ok n fuel t _ _ sh h hs

/-! ### Slices that came in -/
/-- A slice reads as a list. -/
def Lst {α : Type} (sz : Nat) (e : α → List AV) (S : Mem) (x : AV) (l : List α) : Prop :=
  (x = .sn ∧ l = []) ∨ (x = .se ∧ l = []) ∨ ∃ i o v len cap ex, x = .sl i o v len cap ex ∧ l.length = len ∧ rowAt S i o v (len * sz) = some (l.flatMap e)

theorem Lst.grow {α : Type} {sz : Nat} {e : α → List AV} {S : Mem} {x : AV} {l : List α} (h : Lst sz e S x l) (T : Mem) : Lst sz e (S ++ T) x l := by
  rcases h with h | h | ⟨i, o, v, len, cap, ex, h1, h2, h3⟩
  · exact .inl h
  · exact .inr (.inl h)
  · exact .inr (.inr ⟨i, o, v, len, cap, ex, h1, h2, rowAt_grow T h3⟩)

theorem cells_get {a : Addr} {n : Nat} {cs : List Value} (h : w.cells? 0 a n = some cs) : cs.length = n ∧ ∀ i, i < n → w.cell? (a.add i) = cs[i]? := by
  unfold World.cells? at h
  rw [if_pos (Nat.zero_le _)] at h
  have h1 := mapM_some_length h
  rw [List.length_range] at h1
  exact ⟨h1, fun i hi => mapM_some_get h i i (by simp [hi])⟩

theorem cell_at {a : Addr} {v : Value} (h : w.cell? a = some v) : a.spot = none ∧ ∃ c et fz, w.heap[a.block]? = some (.cells c et fz) ∧ c[a.off]? = some v := by
  unfold World.cell? at h
  split at h
  · rename_i c et fz hc
    split at h
    · cases h
    · rename_i hs
      exact ⟨by simpa using hs, c, et, fz, hc, h⟩
  · cases h

/-- What came in and is a slice reads as a list, if each of its elements does. -/
theorem lst_of {α : Type} {sz : Nat} {e : α → List AV} {et : TypeId} {v : Value} (hsz : P.cellsOf et = sz) (h0 : 0 < sz) (h : CellIs enc P w (.slice et) v)
    (he : ∀ cs fuel x, DataW.trod enc P w 0 (fun _ => true) true fuel et cs = some x → ∃ a, cs.map (absV w) = e a ∧ (e a).length = sz) {good : α → Prop} (hg : ∀ cs fuel x a, DataW.trod enc P w 0 (fun _ => true) true fuel et cs = some x → cs.map (absV w) = e a → good a) :
    ∃ l : List α, Lst sz e (absS w) (absV w v) l ∧ (∀ a ∈ l, good a) ∧ l.length ≤ maxLen := by
  rcases h with rfl | ⟨a, len, cap, rfl, hl, hc, hel⟩
  · exact ⟨[], .inl ⟨rfl, rfl⟩, fun a ha => by simp at ha, Nat.zero_le _⟩
  · by_cases h00 : len = 0 ∧ cap = 0
    · obtain ⟨rfl, rfl⟩ := h00
      exact ⟨[], .inr (.inl ⟨by unfold absV; simp, rfl⟩), fun a ha => by simp at ha, Nat.zero_le _⟩
    · have hcap : 0 < cap := by omega
      obtain ⟨b, o, sp⟩ := a
      -- the block
      obtain ⟨cs0, hcs0, _⟩ := hel 0 hcap
      obtain ⟨_, hg0⟩ := cells_get hcs0
      have hx := hg0 0 (by omega)
      have hlen0 := (cells_get hcs0).1
      rw [List.getElem?_eq_getElem (by omega)] at hx
      obtain ⟨hsp, c, et', fz, hc', _⟩ := cell_at hx
      have hadd : ∀ k n, ((⟨b, o, none⟩ : Addr).add k).add n = ⟨b, o + (k + n), none⟩ := fun k n => by rw [add_eq, add_eq, Nat.add_assoc]
      have hspn : sp = none := by
        cases sp with
        | none => rfl
        | some s => simp [Addr.add] at hsp
      subst hspn
      have hb : w.heap[b]? = some (.cells c et' fz) := by rw [hadd] at hc'; exact hc'
      obtain ⟨i, hi⟩ := numOf_some hb
      have hav : absV w (.slice (some ⟨b, o, none⟩) len cap) = .sl i o 0 len cap true := by
        unfold absV; simp only [hi]; rw [if_neg h00, if_pos hl]
      have key : ∀ k, ∃ a : α, k < cap → (∀ j, j < sz → ((c.toList.map (absV w))[o + (k * sz + j)]?) = (e a)[j]?) ∧ (e a).length = sz ∧ good a := by
        intro k
        by_cases hk : k < cap
        · obtain ⟨cs, hcs, fuel, d, ps, ht⟩ := hel k hk
          obtain ⟨a, ha, hla⟩ := he cs fuel _ ht
          obtain ⟨h1, h2⟩ := cells_get hcs
          refine ⟨a, fun _ => ⟨fun j hj => ?_, hla, hg cs fuel _ a ht ha⟩⟩
          have h3 := h2 j (by omega)
          rw [hsz, hadd] at h3
          have hjl : j < cs.length := by omega
          rw [List.getElem?_eq_getElem hjl] at h3
          obtain ⟨_, c2, _, _, hc2, hv⟩ := cell_at h3
          rw [hb] at hc2
          simp only [Option.some.injEq, Obj.cells.injEq] at hc2
          obtain ⟨rfl, _⟩ := hc2
          rw [← ha, List.getElem?_map, List.getElem?_map, List.getElem?_eq_getElem hjl, Array.getElem?_toList, hv]
        · obtain ⟨cs, hcs, fuel, d, ps, ht⟩ := hel 0 hcap
          obtain ⟨a, _⟩ := he cs fuel _ ht
          exact ⟨a, fun h => absurd h hk⟩
      obtain ⟨A, hA⟩ := Classical.axiomOfChoice key
      have hrow : ∀ n, n ≤ cap → ((c.toList.map (absV w)).drop o).take (n * sz) = ((List.range n).map A).flatMap e ∧ (n * sz ≠ 0 → o + n * sz ≤ c.toList.length) := by
        intro n
        induction n with
        | zero => intro _; simp
        | succ n ih =>
          intro hn
          obtain ⟨ih, ihl⟩ := ih (by omega)
          obtain ⟨h1, h2, _⟩ := hA n (by omega)
          have hlast := h1 (sz - 1) (by omega)
          rw [List.getElem?_eq_getElem (l := e (A n)) (by rw [h2]; omega)] at hlast
          have hlt : o + (n * sz + (sz - 1)) < (c.toList.map (absV w)).length := (List.getElem?_eq_some_iff.1 hlast).1
          have hmul : (n + 1) * sz = n * sz + sz := by rw [Nat.add_mul]; omega
          refine ⟨?_, fun _ => by simp only [List.length_map] at hlt; rw [hmul]; generalize n * sz = q at hlt ⊢; omega⟩
          rw [List.range_succ, List.map_append, List.flatMap_append, ← ih, hmul, List.take_add, List.drop_drop]
          congr 1
          simp only [List.map_cons, List.map_nil, List.flatMap_cons, List.flatMap_nil, List.append_nil]
          apply List.ext_getElem?
          intro j
          by_cases hj : j < sz
          · rw [List.getElem?_take_of_lt hj, List.getElem?_drop, ← h1 j hj]
            congr 1; generalize n * sz = q; omega
          · rw [List.getElem?_take_eq_none (by omega), List.getElem?_eq_none (by rw [h2]; omega)]
      refine ⟨(List.range len).map A, .inr (.inr ⟨i, o, 0, len, cap, true, hav, by simp, ?_⟩), fun a ha => ?_, by simp; omega⟩
      · rw [rowAt_B, abs_at hi]
        have hB : absB w b = .cells (c.toList.map (absV w)) 0 none false := by unfold absB; rw [hb]
        obtain ⟨h1, h2⟩ := hrow len hl
        have hfirst := (hA 0 hcap).1 0 (by omega)
        rw [List.getElem?_eq_getElem (l := e (A 0)) (by rw [(hA 0 hcap).2.1]; omega)] at hfirst
        have ho : o + (0 * sz + 0) < (c.toList.map (absV w)).length := (List.getElem?_eq_some_iff.1 hfirst).1
        rw [hB, rowB_some, if_pos ?_, h1]
        by_cases hz : len * sz = 0
        · rw [hz]; omega
        · have := h2 hz; simp only [List.length_map]; exact this
      · simp only [List.mem_map, List.mem_range] at ha
        obtain ⟨k, hk, rfl⟩ := ha
        exact (hA k (by omega)).2.2
end
end Go.Proofs.YtmolaemlenllmaaGreat

namespace Go.Proofs.YtmolaemlenllmaaGreat
set_option linter.unusedSimpArgs false
set_option linter.unusedVariables false
open Go.RowKit

section
variable {P : Program} {O : Orc} {S0 : Mem} {rd : Bool} {e : Env} {S : Mem} {d : List Nat} {Q : Kont}

/-- At most j rounds of a loop. -/
def LW (P : Program) (O : Orc) (S0 : Mem) (rd : Bool) (l : List Nat) (c : ICode) (Q : Kont) : Nat → Env → Mem → List Nat → Prop
  | 0, _, _, _ => False
  | j + 1, e, S, d => W P O S0 rd c (keepE e l) S d (seqK (fun e S d _ => LW P O S0 rd l c Q j e S d) Q)

def lwK (P : Program) (O : Orc) (S0 : Mem) (rd : Bool) (l : List Nat) (c : ICode) (Q : Kont) (j : Nat) : Env → Mem → List Nat → Kont → Prop := fun e S d _ => LW P O S0 rd l c Q j e S d
theorem LW_succ {l : List Nat} {c : ICode} {j : Nat} : LW P O S0 rd l c Q (j + 1) e S d = W P O S0 rd c (keepE e l) S d (seqK (lwK P O S0 rd l c Q j) Q) := (rfl)
theorem lwK_app {l : List Nat} {c : ICode} {j : Nat} {Q' : Kont} : lwK P O S0 rd l c Q j e S d Q' = LW P O S0 rd l c Q j e S d := (rfl)

theorem wp_unroll (hO : OK P (lamOf P) O) (hmix : P.follows .mixedOrders = true) {l : List Nat} {c : ICode} (j : Nat) (h : LW P O S0 rd l c Q j e S d) : WP P S0 rd (.loop l c) e S d Q := by
  refine wp_loop (fun j e S d => LW P O S0 rd l c Q j e S d) h fun j e S d hI => ?_
  cases j with
  | zero => exact hI.elim
  | succ j =>
    refine (W_sound hO hmix _ _ _ _ _ hI).mono fun x e S d hq => ?_
    cases x with
    | normal => exact ⟨j, Nat.lt_succ_self j, hq⟩
    | ret => exact hq
    | exit id => exact hq
    | goto l => exact hq

/-! ### Blocks that were there -/
theorem old_at {i : Nat} {B : Blk} (h : S[i]? = some B) : (∀ L : Mem, (S ++ L)[i]? = some B) ∧ (∀ (L : Mem) (B' : Blk), (S ++ L).set i B' = S.set i B' ++ L) ∧ (∀ B' : Blk, (S.set i B')[i]? = some B') ∧ (∀ (B' : Blk) (L : Mem), (S.set i B' ++ L)[i]? = some B') ∧
    (∀ (B' B'' : Blk) (L : Mem), (S.set i B' ++ L).set i B'' = S.set i B'' ++ L) ∧ ∀ B' B'' : Blk, (S.set i B').set i B'' = S.set i B'' := by
  have hi := (List.getElem?_eq_some_iff.1 h).1
  refine ⟨fun L => at_old h, fun L B' => set_old h, fun B' => at_set h, fun B' L => at_old (at_set h), fun B' B'' L => ?_, fun B' B'' => List.set_set ..⟩
  rw [set_old (at_set h), List.set_set]

/-- A value that leads to nothing new, whatever the new numbers. -/
def AV.Flat (n : Nat) (x : AV) : Prop := ∀ g, ren n g x = x
def BFlat (n : Nat) (B : Blk) : Prop := B.plain = true ∧ ∀ g, renB n g B.ver B = B

theorem bflat_cells {n : Nat} {cs : List AV} {v : Nat} {o : Option Nat} {r : Bool} (h : ∀ x ∈ cs, AV.Flat n x) : BFlat n (.cells cs v o r) := by
  refine ⟨rfl, fun g => ?_⟩
  simp only [renB, Blk.ver, renL_eq]
  congr 1
  exact (List.map_congr_left (g := id) fun x hx => h x hx g).trans (List.map_id _)

theorem set_closed {i : Nat} {B : Blk} (hB : BFlat S.length B) : ∀ (j : Nat) (B' : Blk), (S.set i B)[j]? = some B' → S[j]? = some B' ∨ BFlat S.length B' := by
  intro j B' h
  by_cases e : i = j
  · subst e
    have hj := (List.getElem?_eq_some_iff.1 h).1
    rw [List.getElem?_set_self (by simpa using hj)] at h
    injection h with h; subst h; exact .inr hB
  · rw [List.getElem?_set_ne e] at h; exact .inl h

/-- New blocks are left out, some that were there have turned. -/
theorem wkv_drop' {S1 L : Mem} {x : AV} (hl : S1.length = S0.length) (hc : ∀ (j : Nat) (B : Blk), S1[j]? = some B → S0[j]? = some B ∨ BFlat S0.length B) (hx : AV.Flat S0.length x) : WkV S0 x S1 x (S1 ++ L) := by
  have hk : keepB S0.length L [] = [] := rfl
  have := ren_keep (S0 := S0) (S1 := S1) (S1' := S1) (L := L) (keep := []) hl hl (by simp) (by simp) (fun i B hB => by
    rcases hc i B hB with h | h
    · exact .inl ⟨h, hB⟩
    · exact .inr ⟨h.1, by rw [h.2]; exact hB⟩)
  rw [hk, List.append_nil] at this
  refine wk_ren this fun t => ?_
  by_cases ht : t = 0
  · subst ht; left; rw [get_put_same]; exact (hx _).symm
  · right; rw [get_put_ne _ _ (Ne.symm ht)]; rfl

/-! ### New numbers, worked out -/
section
variable {n k : Nat} {g : Nat → Option (Nat × Nat)} {L : Mem} {keep : List Nat}
def renP (q : Option (Nat × Nat)) (o v : Nat) : AV := match q with
  | some (j, v') => if v = v' then .p j o 0 else .u
  | none => .u
def renS (q : Option (Nat × Nat)) (o v l c : Nat) (x : Bool) : AV := match q with
  | some (j, v') => if v = v' then .sl j o 0 l c x else .u
  | none => .u
def renM (q : Option (Nat × Nat)) : AV := match q with
  | some (j, v') => if v' = 0 then .m j else .u
  | none => .u
theorem ren_p {o v : Nat} : ren n g (.p (n + k) o v) = renP (g (n + k)) o v := by rw [ren, if_neg (by omega)]; rfl
theorem ren_p0 {o v : Nat} : ren n g (.p n o v) = renP (g n) o v := by rw [ren, if_neg (by omega)]; rfl
theorem ren_sl {o v l c : Nat} {x : Bool} : ren n g (.sl (n + k) o v l c x) = renS (g (n + k)) o v l c x := by rw [ren, if_neg (by omega)]; rfl
theorem ren_sl0 {o v l c : Nat} {x : Bool} : ren n g (.sl n o v l c x) = renS (g n) o v l c x := by rw [ren, if_neg (by omega)]; rfl
theorem ren_m : ren n g (.m (n + k)) = renM (g (n + k)) := by rw [ren, if_neg (by omega)]; rfl
theorem ren_m0 : ren n g (.m n) = renM (g n) := by rw [ren, if_neg (by omega)]; rfl
theorem renP_some {j v' o v : Nat} : renP (some (j, v')) o v = if v = v' then .p j o 0 else .u := rfl
theorem renS_some {j v' o v l c : Nat} {x : Bool} : renS (some (j, v')) o v l c x = if v = v' then .sl j o 0 l c x else .u := rfl
theorem renM_some {j v' : Nat} : renM (some (j, v')) = if v' = 0 then .m j else .u := rfl
def gQ (n : Nat) (p : Option Nat) (B : Option Blk) : Option (Nat × Nat) := match p, B with
  | some p, some B => some (n + p, B.ver)
  | _, _ => none
theorem gKeep_at : gKeep n L keep (n + k) = gQ n (keep.findIdx? (· == k)) (L[k]?) := by
  unfold gKeep gQ
  rw [if_neg (by omega), show n + k - n = k by omega]
  cases keep.findIdx? (· == k) <;> cases L[k]? <;> rfl
theorem gKeep_at0 : gKeep n L keep n = gQ n (keep.findIdx? (· == 0)) (L[0]?) := by
  have := gKeep_at (n := n) (k := 0) (L := L) (keep := keep)
  simpa using this
theorem gQ_some {p : Nat} {B : Blk} : gQ n (some p) (some B) = some (n + p, B.ver) := rfl
theorem ver_cells {cs : List AV} {v : Nat} {o : Option Nat} {r : Bool} : Blk.ver (.cells cs v o r) = v := rfl
theorem ver_map {es : List (AV × AV × Nat)} {c : Nat} : Blk.ver (.map es c) = 0 := rfl
theorem renL_nil : renL n g [] = [] := by rw [renL]
theorem renL_cons {x : AV} {r : List AV} : renL n g (x :: r) = ren n g x :: renL n g r := by rw [renL]
theorem ren_ag {cs : List AV} : ren n g (.ag cs) = .ag (renL n g cs) := by rw [ren]
theorem ren_tu {cs : List AV} : ren n g (.tu cs) = .tu (renL n g cs) := by rw [ren]
theorem ren_i {q : IntKind} {z : Int} : ren n g (.i q z) = .i q z := by rw [ren]
theorem ren_b {z : Bool} : ren n g (.b z) = .b z := by rw [ren]
theorem ren_s {z : List UInt8} : ren n g (.s z) = .s z := by rw [ren]
theorem ren_pn : ren n g .pn = .pn := by rw [ren]
theorem ren_sn : ren n g .sn = .sn := by rw [ren]
theorem ren_se : ren n g .se = .se := by rw [ren]
theorem keepB_nil : keepB n L [] = [] := rfl
theorem keepB_eq : keepB n L keep = keep.map fun k => renB n (gKeep n L keep) 0 (L.getD k (.dfr false)) := rfl
theorem renB_cells {cs : List AV} {v v' : Nat} {o : Option Nat} {r : Bool} : renB n g v' (.cells cs v o r) = .cells (renL n g cs) v' o r := rfl
theorem zerosV_zero {z : List AV} : zerosV z 0 = [] := by simp [zerosV]
theorem zerosV_succ {z : List AV} : zerosV z (n + 1) = z ++ zerosV z n := by
  unfold zerosV
  apply List.ext_getElem (by simp [Nat.add_mul]; omega)
  intro j h1 h2
  simp only [List.length_map, List.length_range] at h1
  have hz : 0 < z.length := by
    rcases Nat.eq_zero_or_pos z.length with e | e
    · rw [e] at h1; simp at h1
    · exact e
  simp only [List.getElem_map, List.getElem_range]
  by_cases hj : j < z.length
  · rw [List.getElem_append_left hj, Nat.mod_eq_of_lt hj]
    simp [List.getD_eq_getElem?_getD, hj]
  · rw [List.getElem_append_right (by omega)]
    simp only [List.getElem_map, List.getElem_range]
    congr 1
    rw [Nat.mod_eq_sub_mod (by omega)]
end

/-! ### Elements of a slice that came in -/
theorem row_part {i o v n : Nat} {xs : List AV} (h : rowAt S i o v n = some xs) {k m : Nat} (hk : k + m ≤ n) : rowAt S i (o + k) v m = some ((xs.drop k).take m) := by
  unfold rowAt at h ⊢
  split at h
  · rename_i cs ver _ _ hB
    split at h
    · rename_i hc
      injection h with h
      subst h
      rw [if_pos ⟨hc.1, by omega⟩]
      congr 1
      rw [List.drop_take, List.take_take, List.drop_drop, Nat.min_eq_left (by omega)]
    · cases h
  · cases h

theorem flat_part {α : Type} {f : α → List AV} {w : Nat} (hw : ∀ a, (f a).length = w) : ∀ (l : List α) (k : Nat) (h : k < l.length), ((l.flatMap f).drop (k * w)).take w = f l[k]
  | a :: r, 0, _ => by
    simp only [List.flatMap_cons, Nat.zero_mul, List.drop_zero, List.getElem_cons_zero]
    rw [List.take_append_of_le_length (by rw [hw]; exact Nat.le_refl _), List.take_of_length_le (by rw [hw]; exact Nat.le_refl _)]
  | a :: r, k + 1, h => by
    simp only [List.flatMap_cons, List.getElem_cons_succ]
    rw [show (k + 1) * w = (f a).length + k * w by rw [hw, Nat.add_mul]; omega, List.drop_append, List.drop_eq_nil_of_le (by omega), List.nil_append, Nat.add_sub_cancel_left]
    exact flat_part hw r k (by simpa using h)

theorem lst_row {α : Type} {f : α → List AV} {w : Nat} (hw : ∀ a, (f a).length = w) {i o v : Nat} {l : List α} (h : rowAt S i o v (l.length * w) = some (l.flatMap f)) {k : Nat} (hk : k < l.length) (L : Mem) : rowB ((S ++ L)[i]?) (o + k * w) v w = some (f l[k]) := by
  have h1 : k * w + w ≤ l.length * w := by rw [← Nat.succ_mul]; exact Nat.mul_le_mul_right w hk
  have := row_part h h1
  rw [flat_part hw l k hk] at this
  have := rowAt_grow L this
  rwa [rowAt_B] at this

/-- A call that changes nothing that was there, whatever there is. -/
theorem fnOK_of_below {f : FuncId} (hen : enterable P f = true) (h : ∀ w, Calls P f #[] w fun e w' => e = .returned (.bool true) ∧ Below w.heap.size w w') (S : Mem) : FnOK P f [] S (.b true) S := by
  refine ⟨hen, fun base w0 K w vs hΛ hA hS => ?_⟩
  have hv : vs = #[] := by
    have := hA.1
    simp only [List.length_nil, Array.length_toList] at this
    exact Array.eq_empty_of_size_eq_zero this.symm
  subst hv
  refine (h w).mono fun e w' ⟨he, hb⟩ => ?_
  obtain ⟨h1, h2, h3, h4, h5⟩ := hb
  have hst : Stp K S w K S w' := ⟨.refl K S, h1, h2, h3, h4, fun b hb _ => h5 b hb, fun _ B' h => .inl ⟨B', h, id, rfl⟩⟩
  exact ⟨K, .bool true, he, .b _, ⟨fun i B hB => (hS.blk i B hB).mono (.refl K S) rfl rfl (h5 _ (hS.blk i B hB).lt), hS.inj, hS.step_below hst, Nat.le_trans hS.hb h4, hS.door⟩, hst⟩

theorem bin_peql_nn {cst : Bool} : binV .ptr cst .eql .pn .pn = some (.b true) := rfl
theorem bin_peql_pn {cst : Bool} {i o v : Nat} : binV .ptr cst .eql (.p i o v) .pn = some (.b false) := rfl
theorem bin_peql_np {cst : Bool} {i o v : Nat} : binV .ptr cst .eql .pn (.p i o v) = some (.b false) := rfl
theorem bin_pneq_nn {cst : Bool} : binV .ptr cst .neq .pn .pn = some (.b false) := rfl
theorem bin_pneq_pn {cst : Bool} {i o v : Nat} : binV .ptr cst .neq (.p i o v) .pn = some (.b true) := rfl
theorem bin_pneq_np {cst : Bool} {i o v : Nat} : binV .ptr cst .neq .pn (.p i o v) = some (.b true) := rfl
theorem bin_sleql_nn {cst : Bool} : binV .slice cst .eql .sn .sn = some (.b true) := rfl
theorem bin_sleql_en {cst : Bool} : binV .slice cst .eql .se .sn = some (.b false) := rfl
theorem bin_sleql_sn {cst : Bool} {i o v l c : Nat} {x : Bool} : binV .slice cst .eql (.sl i o v l c x) .sn = some (.b false) := rfl

theorem wkv_eq {x y : AV} {S' S2 : Mem} (h : WkV S0 x S' y S2) {x' y' : AV} (hx : x' = x) (hy : y' = y) : WkV S0 x' S' y' S2 := by rw [hx, hy]; exact h
end
attribute [go_sem] bin_peql_nn bin_peql_pn bin_peql_np bin_pneq_nn bin_pneq_pn bin_pneq_np bin_sleql_nn bin_sleql_en bin_sleql_sn LW_succ lwK_app ren_p ren_p0 ren_sl ren_sl0 ren_m ren_m0 renP_some renS_some renM_some gKeep_at gKeep_at0 gQ_some ver_cells ver_map renL_nil renL_cons ren_ag ren_tu ren_i ren_b ren_s ren_pn ren_sn ren_se keepB_eq renB_cells
end Go.Proofs.YtmolaemlenllmaaGreat

namespace Go.Proofs.YtmolaemlenllmaaGreat
open Go.RowKit
set_option linter.unusedSimpArgs false
set_option linter.unusedVariables false

section
variable {P : Program}

/-- The evaluator, some functions by their contracts. -/
def evMix (sp : List (FuncId × Spec)) (T : FuncId → Option IFunc) (m : Nat) : Nat → Orc
  | 0 => ⟨fun _ _ _ => none, fun _ _ _ => none⟩
  | n + 1 => ⟨fun f => match sp.find? (fun p => Nat.beq p.1 f) with
    | some p => p.2
    | none => match T f with
      | some F => evFunc (evMix sp T m n) m F
      | none => fun _ _ => none, evRound (evMix sp T m n) m T⟩

theorem evMix_ok (hmix : P.follows .mixedOrders = true) {sp : List (FuncId × Spec)} (hsp : ∀ p ∈ sp, SpecOK P p.1 p.2) {T : FuncId → Option IFunc} (hT : ∀ f F, T f = some F → compFunc P f = some (stripF F)) (m : Nat) : ∀ n, OK P (lamOf P) (evMix sp T m n)
  | 0 => ⟨fun f args S x S' h => by simp [evMix] at h, fun i args S x S' h => by simp [evMix] at h⟩
  | n + 1 => by
    have ih := evMix_ok hmix hsp hT m n
    refine ⟨fun f args S x S' h => ?_, fun i args S x S' h base w0 K w l vs hΛ hy hA hS => round_ok ih hmix hT h base w0 K w l vs hΛ hy hA hS⟩
    cases hq : sp.find? (fun p => Nat.beq p.1 f) with
    | some p =>
      simp only [evMix, hq] at h
      have hp := List.mem_of_find?_eq_some hq
      have he := List.find?_some hq
      have he := Nat.eq_of_beq_eq_true he
      subst he
      exact hsp p hp args S x S' h
    | none =>
      cases hF : T f with
      | none => simp [evMix, hq, hF] at h
      | some F =>
        simp only [evMix, hq, hF] at h
        exact func_ok ih hmix (hT f F hF) h

theorem calls_of_mix (hmix : P.follows .mixedOrders = true) {sp : List (FuncId × Spec)} (hsp : ∀ p ∈ sp, SpecOK P p.1 p.2) {T : FuncId → Option IFunc} (hT : ∀ f F, T f = some F → compFunc P f = some (stripF F)) {m n : Nat} {f : FuncId}
    (hv : isTrue ((evMix sp T m n).fn f [] []) = true) (w : World) (hd : Door w.heap.size w := by exact Door.triv) : Calls P f #[] w fun e w' => e = .returned (.bool true) ∧ Below w.heap.size w w' := by
  have hO := evMix_ok (P := P) hmix hsp (T := T) hT m n
  cases hr : (evMix sp T m n).fn f [] [] with
  | none => rw [hr] at hv; cases hv
  | some p =>
    obtain ⟨x, S'⟩ := p
    rw [hr] at hv
    have hx : x = .b true := by
      unfold isTrue at hv
      split at hv
      · rename_i h; simp only [Option.some.injEq, Prod.mk.injEq] at h; exact h.1
      · cases hv
    subst hx
    refine ((hO.fn _ _ _ _ _ hr).2 ⟨w.heap.size, lamOf P⟩ w _ w #[] rfl ⟨rfl, fun k hk => by simp at hk⟩ (Sim.start _ w hd)).mono fun e w' hp => ?_
    obtain ⟨K', v, rfl, hV, hS, _⟩ := hp
    cases hV
    exact ⟨rfl, hS.below⟩

/-- A call that changes nothing that was there, with whatever arguments. -/
theorem post_of_below {base : Bs} {w0 : World} {K : Ctx} {S : Mem} {w w' : World} {x : AV} {v : Value} (hS : Sim base w0 K S w) (hb : Below w.heap.size w w') (hv : VR K S x v) : Post base w0 K S w x S (.returned v) w' := by
  obtain ⟨h1, h2, h3, h4, h5⟩ := hb
  have hst : Stp K S w K S w' := ⟨.refl K S, h1, h2, h3, h4, fun b hb _ => h5 b hb, fun _ B' h => .inl ⟨B', h, id, rfl⟩⟩
  exact ⟨K, v, rfl, hv, ⟨fun i B hB => (hS.blk i B hB).mono (.refl K S) rfl rfl (h5 _ (hS.blk i B hB).lt), hS.inj, hS.step_below hst, Nat.le_trans hS.hb h4, hS.door⟩, hst⟩

/-! ### strings.Join -/
end
end Go.Proofs.YtmolaemlenllmaaGreat

namespace Go.Proofs.YtmolaemlenllmaaGreat
open Go.RowKit
set_option linter.unusedSimpArgs false
set_option linter.unusedVariables false

/-- How values of a kind lie in cells. -/
structure Enc (α : Type) where
  enc : α → List AV
  dec : List AV → Option α
  sz : Nat
  pos : 0 < sz
  len : ∀ a, (enc a).length = sz
  de : ∀ a, dec (enc a) = some a
  ed : ∀ r a, dec r = some a → r = enc a

section
variable {α : Type} {E : Enc α} {S : Mem}

def decL (E : Enc α) : Nat → List AV → Option (List α)
  | 0, _ => some []
  | n + 1, xs => match E.dec (xs.take E.sz), decL E n (xs.drop E.sz) with
    | some a, some l => some (a :: l)
    | _, _ => none

theorem decL_enc : ∀ l : List α, decL E l.length (l.flatMap E.enc) = some l
  | [] => rfl
  | a :: l => by
    have h1 : (E.enc a ++ l.flatMap E.enc).take E.sz = E.enc a := by rw [← E.len a, List.take_left]
    have h2 : (E.enc a ++ l.flatMap E.enc).drop E.sz = l.flatMap E.enc := by rw [← E.len a, List.drop_left]
    simp only [List.length_cons, List.flatMap_cons, decL, h1, h2, E.de, decL_enc l]

theorem decL_ok : ∀ (n : Nat) (xs : List AV) (l : List α), decL E n xs = some l → xs.length = n * E.sz → l.length = n ∧ xs = l.flatMap E.enc
  | 0, xs, l, h, hx => by
    simp only [decL, Option.some.injEq] at h
    subst h
    exact ⟨rfl, List.eq_nil_of_length_eq_zero (by simpa using hx)⟩
  | n + 1, xs, l, h, hx => by
    simp only [decL] at h
    split at h
    · rename_i a r h1 h2
      simp only [Option.some.injEq] at h
      subst h
      have hx' : xs.length = n * E.sz + E.sz := by rw [hx, Nat.add_mul, Nat.one_mul]
      obtain ⟨q1, q2⟩ := decL_ok n _ r h2 (by rw [List.length_drop]; omega)
      refine ⟨by simp [q1], ?_⟩
      rw [List.flatMap_cons, ← E.ed _ _ h1, ← q2, List.take_append_drop]
    · cases h

/-- The list that a slice reads as. -/
def lstV (E : Enc α) (S : Mem) (x : AV) : Option (List α) := match x with
  | .sn => some []
  | .se => some []
  | .sl i o v len _ _ => match rowAt S i o v (len * E.sz) with
    | some xs => decL E len xs
    | none => none
  | _ => none

theorem rowAt_len {i o v n : Nat} {xs : List AV} (h : rowAt S i o v n = some xs) : xs.length = n := by
  unfold rowAt at h
  split at h
  · split at h
    · rename_i hc
      injection h with h; subst h
      rw [List.length_take, List.length_drop]; omega
    · cases h
  · cases h

theorem lstV_lst {x : AV} {l : List α} (h : lstV E S x = some l) : Lst E.sz E.enc S x l := by
  unfold lstV at h
  split at h
  · injection h with h; subst h; exact .inl ⟨rfl, rfl⟩
  · injection h with h; subst h; exact .inr (.inl ⟨rfl, rfl⟩)
  · split at h
    · rename_i xs hr
      obtain ⟨h1, h2⟩ := decL_ok _ _ _ h (rowAt_len hr)
      exact .inr (.inr ⟨_, _, _, _, _, _, rfl, h1, by rw [hr, h2]⟩)
    · cases h
  · cases h

theorem lst_lstV {x : AV} {l : List α} (h : Lst E.sz E.enc S x l) : lstV E S x = some l := by
  rcases h with ⟨rfl, rfl⟩ | ⟨rfl, rfl⟩ | ⟨i, o, v, len, cap, ex, rfl, rfl, h3⟩
  · rfl
  · rfl
  · simp only [lstV, h3, decL_enc]

theorem lstV_grow {x : AV} {l : List α} (h : lstV E S x = some l) (T : Mem) : lstV E (S ++ T) x = some l := lst_lstV ((lstV_lst h).grow T)

/-- A slice that is not empty. -/
theorem lstV_at {i o v len cap : Nat} {ex : Bool} {l : List α} (h : lstV E S (.sl i o v len cap ex) = some l) : l.length = len ∧ rowAt S i o v (l.length * E.sz) = some (l.flatMap E.enc) := by
  simp only [lstV] at h
  split at h
  · rename_i xs hr
    obtain ⟨h1, h2⟩ := decL_ok _ _ _ h (rowAt_len hr)
    subst h1
    exact ⟨rfl, by rw [hr, h2]⟩
  · cases h

theorem lst_len {x : AV} {l : List α} (h : lstV E S x = some l) (S' : Mem) : lenQ .slice S' x = some (.i .i64 (l.length : Int)) := by
  rcases lstV_lst h with ⟨rfl, rfl⟩ | ⟨rfl, rfl⟩ | ⟨i, o, v, len, cap, ex, rfl, rfl, h3⟩ <;> rfl
theorem lst_sl {x : AV} {l : List α} (h : lstV E S x = some l) {k : Nat} (hk : k < l.length) : ∃ i o v cap ex, x = .sl i o v l.length cap ex := by
  rcases lstV_lst h with ⟨rfl, rfl⟩ | ⟨rfl, rfl⟩ | ⟨i, o, v, len, cap, ex, rfl, rfl, h3⟩
  · simp at hk
  · simp at hk
  · exact ⟨_, _, _, _, _, rfl⟩

/-- The element at a place, as a row. -/
theorem lstV_row {i o v len cap : Nat} {ex : Bool} {l : List α} (h : lstV E S (.sl i o v len cap ex) = some l) {k : Nat} (hk : k < l.length) (L : Mem) : rowB ((S ++ L)[i]?) (o + k * E.sz) v E.sz = some (E.enc l[k]) :=
  lst_row E.len (lstV_at h).2 hk L

/-- The element at a place, as a cell. -/
theorem lstV_cell {i o v len cap : Nat} {ex : Bool} {l : List α} (h : lstV E S (.sl i o v len cap ex) = some l) (h1 : E.sz = 1) {f : α → AV} (hf : ∀ a, E.enc a = [f a]) {k : Nat} (hk : k < l.length) (L : Mem) : cellB ((S ++ L)[i]?) (o + k) v = some (f l[k]) := by
  have := lstV_row h hk L
  rw [h1, Nat.mul_one, hf] at this
  unfold rowB at this
  unfold cellB
  split at this
  · rename_i cs ver op r hB
    split at this
    · rename_i hc
      simp only [hc.1, if_true]
      injection this with this
      have hlt : o + k < cs.length := by omega
      rw [List.getElem?_eq_getElem hlt]
      have h2 : (cs.drop (o + k)).take 1 = [cs[o + k]] := by rw [List.drop_eq_getElem_cons hlt]; rfl
      rw [h2] at this
      simpa using this
    · cases this
  · cases this
end

section
variable {α : Type} {E : Enc α} {S : Mem}
end

/-! ### Slicing -/
/-- It can be sliced: its capacity is known, or its block is one that append has made. -/
def openS (S : Mem) (size : Nat) : AV → Bool
  | .sl i _ _ len cap ex => (decide (0 < cap) && decide (len ≤ cap)) && (ex || (match S[i]? with | some B => B.opn == some size | none => false))
  | _ => true
theorem slice_hi {S : Mem} {size i o v len cap : Nat} {ex : Bool} {q : IntKind} {n : Nat} (hn : n ≤ cap) (h : openS S size (.sl i o v len cap ex) = true) :
    sliceV S size (.sl i o v len cap ex) none (some (.i q (n : Int))) none = some (.sl i o v n cap ex) := by
  simp only [openS, Bool.and_eq_true, decide_eq_true_eq, Bool.or_eq_true] at h
  obtain ⟨⟨h0, _⟩, h1⟩ := h
  have hb : bnds len cap none (some (.i q (n : Int))) none = some (0, n, cap) := by
    simp [bnds, bndV, natV, hn]
  simp only [sliceV, hb, Option.isSome_none, Bool.or_false]
  cases ex with
  | true => simp [cutAt]
  | false =>
    simp only [Bool.false_eq_true, if_false, false_or] at h1 ⊢
    rw [if_neg (by omega)]
    split at h1
    · rename_i B hB
      simp only [hB, if_pos (show B.opn = some size by simpa using h1)]
      simp
    · cases h1

/-! ### Append -/
def appN (S : Mem) (size len n : Nat) (cs : List AV) (old : Option (List AV)) : Option (AV × Mem) := match old with
  | some old => some (.sl S.length 0 0 (len + n) (len + n) false, S ++ [.cells (old ++ cs) 0 (some size) true])
  | none => none
theorem app_ex {S : Mem} {size bytes i o v len cap n : Nat} {cs : List AV} (h0 : 0 < n) (h1 : cap < len + n) (h2 : (len + n) * bytes ≤ 70368744177664) (h3 : len + n ≤ 70368744177664) :
    appV S size bytes (.sl i o v len cap true) cs n = appN S size len n cs (rowB (S[i]?) o v (len * size)) := by
  have h2' : (len + n) * bytes ≤ lim := Nat.le_trans h2 (by unfold lim; omega)
  have h3' : len + n ≤ lim := Nat.le_trans h3 (by unfold lim; omega)
  simp only [appV]
  rw [if_neg (by omega), if_neg (by omega), if_pos ⟨h2', h3'⟩, rowAt_B]
  simp only [if_true, appN]
  cases rowB (S[i]?) o v (len * size) <;> rfl
theorem appN_some {S : Mem} {size len n : Nat} {cs old : List AV} : appN S size len n cs (some old) = some (.sl S.length 0 0 (len + n) (len + n) false, S ++ [.cells (old ++ cs) 0 (some size) true]) := (rfl)
theorem app_sn {S : Mem} {size bytes n : Nat} {cs : List AV} (h0 : 0 < n) (h2 : n * bytes ≤ 70368744177664) (h3 : n ≤ 70368744177664) :
    appV S size bytes .sn cs n = some (.sl S.length 0 0 n n false, S ++ [.cells cs 0 (some size) true]) := by
  have h2' : n * bytes ≤ lim := Nat.le_trans h2 (by unfold lim; omega)
  have h3' : n ≤ lim := Nat.le_trans h3 (by unfold lim; omega)
  simp only [appV]
  rw [if_neg (by omega), if_pos ⟨h2', h3'⟩]
def srcN (len : Nat) (old : Option (List AV)) : Option (List AV × Nat) := match old with
  | some cs => some (cs, len)
  | none => none
theorem src_sl {S : Mem} {size i o v len cap : Nat} {ex : Bool} : srcV S size (.sl i o v len cap ex) = srcN len (rowB (S[i]?) o v (len * size)) := by
  simp only [srcV, rowAt_B]
  cases rowB (S[i]?) o v (len * size) <;> rfl
theorem srcN_some {len : Nat} {cs : List AV} : srcN len (some cs) = some (cs, len) := (rfl)
theorem src_sn {S : Mem} {size : Nat} : srcV S size .sn = some ([], 0) := (rfl)
attribute [go_sem] app_ex appN_some app_sn src_sl srcN_some src_sn

/-- Numbers of a kind. -/
def intE (k : IntKind) : Enc Int where
  enc n := [.i k n]
  dec r := match r with
    | [.i q n] => if q = k then some n else none
    | _ => none
  sz := 1
  pos := Nat.one_pos
  len _ := rfl
  de a := by simp
  ed r a h := by
    split at h
    · split at h
      · rename_i hq; subst hq; injection h with h; subst h; rfl
      · cases h
    · cases h
end Go.Proofs.YtmolaemlenllmaaGreat

namespace Go.Proofs.YtmolaemlenllmaaGreat
open Go.RowKit
set_option linter.unusedSimpArgs false
set_option linter.unusedVariables false

section
variable {α : Type} {E : Enc α} {S M S0 : Mem}

theorem ext_refl : S <+: S := List.prefix_refl S
theorem ext_app (T : Mem) : S <+: S ++ T := List.prefix_append S T
theorem ext_more (h : S <+: M) (T : Mem) : S <+: M ++ T := h.trans (List.prefix_append M T)

theorem wkv_dropP {x : AV} (h : S0 <+: M) (hx : x.flat S0.length) : WkV S0 x S0 x M := by
  obtain ⟨T, rfl⟩ := h
  exact wkv_drop hx
theorem wkv_bP {p q : Prop} [Decidable p] [Decidable q] (h : S0 <+: M) (hpq : p ↔ q) : WkV S0 (.b (decide p)) S0 (.b (decide q)) M := by
  rw [show decide p = decide q from decide_eq_decide.2 hpq]
  exact wkv_dropP h rfl
theorem wkv_tP {p : Prop} [Decidable p] (h : S0 <+: M) (hp : p) : WkV S0 (.b (decide p)) S0 (.b true) M := by
  rw [decide_eq_true hp]; exact wkv_dropP h rfl
theorem wkv_fP {p : Prop} [Decidable p] (h : S0 <+: M) (hp : ¬ p) : WkV S0 (.b (decide p)) S0 (.b false) M := by
  rw [decide_eq_false hp]; exact wkv_dropP h rfl
theorem lst_ext {x : AV} {l : List α} (h : lstV E S x = some l) (hS : S <+: M) : lstV E M x = some l := by
  obtain ⟨T, rfl⟩ := hS
  exact lstV_grow h T

/-! ### Building -/
/-- What is built with append: nothing yet ('z': an empty slice that is not nil), or a block that append has made. -/
def Acc (z : Bool) (E : Enc α) (S M : Mem) (x : AV) (l : List α) : Prop :=
  ∃ T, M = S ++ T ∧ ((l = [] ∧ z = false ∧ x = .sn) ∨ (l = [] ∧ z = true ∧ ∃ p, x = .sl (S.length + p) 0 0 0 0 true ∧ T[p]? = some (.cells [] 0 none true)) ∨ (l ≠ [] ∧ ∃ p v, x = .sl (S.length + p) 0 v l.length l.length false ∧ T[p]? = some (.cells (l.flatMap E.enc) v (some E.sz) true)))
def retX (z : Bool) (S : Mem) : List α → AV
  | [] => if z then .sl S.length 0 0 0 0 true else .sn
  | a :: l => .sl S.length 0 0 (a :: l).length (a :: l).length false
def retM (z : Bool) (E : Enc α) (S : Mem) : List α → Mem
  | [] => if z then S ++ [.cells [] 0 none true] else S
  | a :: l => S ++ [.cells ((a :: l).flatMap E.enc) 0 (some E.sz) true]
theorem retM_ext {z : Bool} {l : List α} : S <+: retM z E S l := by cases l <;> cases z <;> simp [retM]

theorem acc_nil (h : S <+: M) : Acc false E S M .sn [] := by
  obtain ⟨T, rfl⟩ := h
  exact ⟨T, rfl, .inl ⟨rfl, rfl, rfl⟩⟩
theorem acc_lit (h : S <+: M) : Acc true E S (M ++ [.cells [] 0 none true]) (.sl M.length 0 0 0 0 true) [] := by
  obtain ⟨T, rfl⟩ := h
  exact ⟨T ++ [.cells [] 0 none true], by rw [List.append_assoc], .inr (.inl ⟨rfl, rfl, T.length, by rw [List.length_append], by simp⟩)⟩
variable {z : Bool}
theorem Acc.ext {x : AV} {l : List α} (h : Acc z E S M x l) : S <+: M := by obtain ⟨T, rfl, _⟩ := h; exact ext_app T
theorem Acc.grow {x : AV} {l : List α} (h : Acc z E S M x l) (U : Mem) : Acc z E S (M ++ U) x l := by
  obtain ⟨T, rfl, h⟩ := h
  refine ⟨T ++ U, by rw [List.append_assoc], ?_⟩
  rcases h with h | ⟨h0, hz, p, h1, h2⟩ | ⟨h0, p, v, h1, h2⟩
  · exact .inl h
  · exact .inr (.inl ⟨h0, hz, p, h1, at_old h2⟩)
  · exact .inr (.inr ⟨h0, p, v, h1, at_old h2⟩)
theorem Acc.extM {x : AV} {l : List α} {M' : Mem} (h : Acc z E S M x l) (hM : M <+: M') : Acc z E S M' x l := by
  obtain ⟨U, rfl⟩ := hM; exact h.grow U
theorem enc_length (l : List α) : (l.flatMap E.enc).length = l.length * E.sz := by
  induction l with
  | nil => simp
  | cons a l ih => rw [List.flatMap_cons, List.length_append, E.len, ih, List.length_cons, Nat.add_mul]; omega
theorem all_one (hE : ∀ a, (E.enc a).all AV.one = true) (l : List α) : (l.flatMap E.enc).all AV.one = true := by
  rw [List.all_eq_true]
  intro x hx
  obtain ⟨a, _, ha⟩ := List.mem_flatMap.1 hx
  exact List.all_eq_true.1 (hE a) x ha
theorem Acc.lst {x : AV} {l : List α} (h : Acc z E S M x l) : lstV E M x = some l := by
  obtain ⟨T, rfl, ⟨rfl, rfl, rfl⟩ | ⟨rfl, rfl, p, rfl, h2⟩ | ⟨h0, p, v, rfl, h2⟩⟩ := h
  · rfl
  · refine lst_lstV (.inr (.inr ⟨_, _, _, _, _, _, rfl, rfl, ?_⟩))
    rw [rowAt_B, at_app, h2]; simp [rowB]
  · refine lst_lstV (.inr (.inr ⟨_, _, _, _, _, _, rfl, rfl, ?_⟩))
    rw [rowAt_B, at_app, h2, rowB_some, if_pos (by rw [enc_length]; omega), List.drop_zero, ← enc_length, List.take_length]
/-- It can be sliced, if there is something. -/
theorem Acc.opens {x : AV} {l : List α} (h : Acc z E S M x l) (hl : l ≠ []) : openS M E.sz x = true := by
  obtain ⟨T, rfl, ⟨rfl, rfl, rfl⟩ | ⟨rfl, rfl, p, rfl, h2⟩ | ⟨h0, p, v, rfl, h2⟩⟩ := h
  · exact absurd rfl hl
  · exact absurd rfl hl
  · have : 0 < l.length := List.length_pos_iff.2 h0
    simp [openS, at_app, h2, Blk.opn, this]
/-- Some more are appended. -/
theorem Acc.apps {bytes : Nat} {x : AV} {l : List α} (hE : ∀ a, (E.enc a).all AV.one = true) (h : Acc z E S M x l) (r : List α) (h1 : (l.length + r.length) * bytes ≤ 70368744177664) (h2 : l.length + r.length ≤ 70368744177664) :
    ∃ x' M', appV M E.sz bytes x (r.flatMap E.enc) r.length = some (x', M') ∧ Acc z E S M' x' (l ++ r) := by
  have h1' : (l.length + r.length) * bytes ≤ lim := Nat.le_trans h1 (by unfold lim; omega)
  have h2' : l.length + r.length ≤ lim := Nat.le_trans h2 (by unfold lim; omega)
  by_cases hr : r = []
  · subst hr
    refine ⟨x, M, ?_, by rw [List.append_nil]; exact h⟩
    obtain ⟨T, rfl, ⟨rfl, rfl, rfl⟩ | ⟨rfl, rfl, p, rfl, h2⟩ | ⟨h0, p, v, rfl, h2⟩⟩ := h
    · simp [appV]
    · simp [appV]
    · simp [appV]
  · have hr0 : 0 < r.length := List.length_pos_iff.2 hr
    obtain ⟨T, rfl, ⟨rfl, rfl, rfl⟩ | ⟨rfl, rfl, p, rfl, hB⟩ | ⟨h0, p, v, rfl, hB⟩⟩ := h
    · simp only [List.length_nil, Nat.zero_add] at h1' h2'
      refine ⟨.sl (S ++ T).length 0 0 r.length r.length false, (S ++ T) ++ [.cells (r.flatMap E.enc) 0 (some E.sz) true], ?_, T ++ [.cells (r.flatMap E.enc) 0 (some E.sz) true], by rw [List.append_assoc], .inr (.inr ⟨by simpa using hr, T.length, 0, by simp, by simp⟩)⟩
      simp only [appV]
      rw [if_neg (by omega), if_pos ⟨h1', h2'⟩]
    · simp only [List.length_nil, Nat.zero_add] at h1' h2'
      refine ⟨.sl (S ++ T).length 0 0 r.length r.length false, (S ++ T) ++ [.cells (r.flatMap E.enc) 0 (some E.sz) true], ?_, T ++ [.cells (r.flatMap E.enc) 0 (some E.sz) true], by rw [List.append_assoc], .inr (.inr ⟨by simpa using hr, T.length, 0, by simp, by simp⟩)⟩
      have hc : rowAt (S ++ T) (S.length + p) 0 0 (0 * E.sz) = some [] := by rw [rowAt_B, at_app, hB]; simp [rowB]
      simp only [appV, hc]
      rw [if_neg (by omega), if_neg (by omega), Nat.zero_add, if_pos ⟨h1', h2'⟩]
      rfl
    · have hp : p < T.length := (List.getElem?_eq_some_iff.1 hB).1
      refine ⟨.sl (S.length + p) 0 (v + 1) (l.length + r.length) (l.length + r.length) false, S ++ T.set p (.cells (l.flatMap E.enc ++ r.flatMap E.enc) (v + 1) (some E.sz) true), ?_, _, rfl, .inr (.inr ⟨by simp [hr], p, v + 1, by rw [List.length_append], by simp [hp]⟩)⟩
      simp only [appV]
      rw [if_neg (by omega), if_neg (by omega), if_pos ⟨h1', h2'⟩]
      have hc : (S ++ T)[S.length + p]? = some (.cells (l.flatMap E.enc) v (some E.sz) true) := by rw [at_app]; exact hB
      simp only [hc, Bool.false_eq_true, if_false]
      rw [if_pos ⟨trivial, trivial, trivial, by rw [enc_length]; omega, all_one hE r⟩, set_app, ← enc_length, List.take_length]
theorem Acc.app {bytes : Nat} {x : AV} {l : List α} (hE : ∀ a, (E.enc a).all AV.one = true) (h : Acc z E S M x l) (a : α) (h1 : (l.length + 1) * bytes ≤ 70368744177664) (h2 : l.length + 1 ≤ 70368744177664) :
    ∃ x' M', appV M E.sz bytes x (E.enc a) 1 = some (x', M') ∧ Acc z E S M' x' (l ++ [a]) := by
  have := h.apps hE [a] h1 h2
  simpa using this

/-! ### Building, when what is built is only read -/
def AccL (E : Enc α) (S M : Mem) (x : AV) (l : List α) : Prop :=
  ∃ T, M = S ++ T ∧ ((l = [] ∧ x = .sn) ∨ ∃ p v ex op, x = .sl (S.length + p) 0 v l.length l.length ex ∧ T[p]? = some (.cells (l.flatMap E.enc) v op true) ∧ (ex = true ∨ op = some E.sz))
theorem AccL.ext {x : AV} {l : List α} (h : AccL E S M x l) : S <+: M := by obtain ⟨T, rfl, _⟩ := h; exact ext_app T
theorem accL_lit {l : List α} (h : S <+: M) : AccL E S (M ++ [.cells (l.flatMap E.enc) 0 none true]) (.sl M.length 0 0 l.length l.length true) l := by
  obtain ⟨T, rfl⟩ := h
  exact ⟨T ++ [.cells (l.flatMap E.enc) 0 none true], by rw [List.append_assoc], .inr ⟨T.length, 0, true, none, by rw [List.length_append], by simp, .inl rfl⟩⟩
theorem Acc.loose {x : AV} {l : List α} (h : Acc z E S M x l) : AccL E S M x l := by
  obtain ⟨T, rfl, ⟨rfl, rfl, rfl⟩ | ⟨rfl, rfl, p, rfl, h2⟩ | ⟨h0, p, v, rfl, h2⟩⟩ := h
  · exact ⟨T, rfl, .inl ⟨rfl, rfl⟩⟩
  · exact ⟨T, rfl, .inr ⟨p, 0, true, none, rfl, h2, .inl rfl⟩⟩
  · exact ⟨T, rfl, .inr ⟨p, v, false, some E.sz, rfl, h2, .inr rfl⟩⟩
theorem AccL.grow {x : AV} {l : List α} (h : AccL E S M x l) (U : Mem) : AccL E S (M ++ U) x l := by
  obtain ⟨T, rfl, h⟩ := h
  refine ⟨T ++ U, by rw [List.append_assoc], ?_⟩
  rcases h with h | ⟨p, v, ex, op, h1, h2, h3⟩
  · exact .inl h
  · exact .inr ⟨p, v, ex, op, h1, at_old h2, h3⟩
theorem AccL.lst {x : AV} {l : List α} (h : AccL E S M x l) : lstV E M x = some l := by
  obtain ⟨T, rfl, ⟨rfl, rfl⟩ | ⟨p, v, ex, op, rfl, h2, _⟩⟩ := h
  · rfl
  · refine lst_lstV (.inr (.inr ⟨_, _, _, _, _, _, rfl, rfl, ?_⟩))
    rw [rowAt_B, at_app, h2, rowB_some, if_pos (by rw [enc_length]; omega), List.drop_zero, ← enc_length, List.take_length]
theorem AccL.opens {x : AV} {l : List α} (h : AccL E S M x l) (hl : l ≠ []) : openS M E.sz x = true := by
  obtain ⟨T, rfl, ⟨rfl, rfl⟩ | ⟨p, v, ex, op, rfl, h2, h3⟩⟩ := h
  · exact absurd rfl hl
  · have : 0 < l.length := List.length_pos_iff.2 hl
    rcases h3 with rfl | rfl <;> simp [openS, at_app, h2, Blk.opn, this]
/-- Some more are appended, behind blocks that were laid since. -/
theorem AccL.apps {bytes : Nat} {x : AV} {l : List α} (hE : ∀ a, (E.enc a).all AV.one = true) (h : AccL E S M x l) (U : Mem) (r : List α) (h1 : (l.length + r.length) * bytes ≤ 70368744177664) (h2 : l.length + r.length ≤ 70368744177664) :
    ∃ x' M' U', appV (M ++ U) E.sz bytes x (r.flatMap E.enc) r.length = some (x', M' ++ (U ++ U')) ∧ M'.length = M.length ∧ AccL E S (M' ++ (U ++ U')) x' (l ++ r) ∧ (r ≠ [] → ∀ z, Acc z E S (M' ++ (U ++ U')) x' (l ++ r)) := by
  have h1' : (l.length + r.length) * bytes ≤ lim := Nat.le_trans h1 (by unfold lim; omega)
  have h2' : l.length + r.length ≤ lim := Nat.le_trans h2 (by unfold lim; omega)
  have h0 := h
  by_cases hr : r = []
  · subst hr
    refine ⟨x, M, [], ?_, rfl, by rw [List.append_nil, List.append_nil]; exact h.grow U, fun q => absurd rfl q⟩
    obtain ⟨T, rfl, ⟨rfl, rfl⟩ | ⟨p, v, ex, op, rfl, h2, _⟩⟩ := h <;> simp [appV]
  · have hr0 : 0 < r.length := List.length_pos_iff.2 hr
    suffices hs : ∃ x' M' U', appV (M ++ U) E.sz bytes x (r.flatMap E.enc) r.length = some (x', M' ++ (U ++ U')) ∧ M'.length = M.length ∧ ∃ T, M' ++ (U ++ U') = S ++ T ∧ ∃ p v, x' = .sl (S.length + p) 0 v (l ++ r).length (l ++ r).length false ∧ T[p]? = some (.cells ((l ++ r).flatMap E.enc) v (some E.sz) true) by
      obtain ⟨x', M', U', g1, g2, T, g3, p, v, g4, g5⟩ := hs
      exact ⟨x', M', U', g1, g2, ⟨T, g3, .inr ⟨p, v, false, some E.sz, g4, g5, .inr rfl⟩⟩, fun _ z => ⟨T, g3, .inr (.inr ⟨by simp [hr], p, v, g4, g5⟩)⟩⟩
    obtain ⟨T, rfl, ⟨rfl, rfl⟩ | ⟨p, v, ex, op, rfl, hB, ho⟩⟩ := h
    · simp only [List.length_nil, Nat.zero_add] at h1' h2'
      refine ⟨.sl (S ++ T ++ U).length 0 0 r.length r.length false, S ++ T, [.cells (r.flatMap E.enc) 0 (some E.sz) true], ?_, rfl, T ++ (U ++ [.cells (r.flatMap E.enc) 0 (some E.sz) true]), by simp, T.length + U.length, 0, by simp, by rw [List.nil_append, List.getElem?_append_right (by omega), List.getElem?_append_right (by omega)]; simp⟩
      simp only [appV]
      rw [if_neg (by omega), if_pos ⟨h1', h2'⟩, List.append_assoc (S ++ T)]
    · have hp : p < T.length := (List.getElem?_eq_some_iff.1 hB).1
      have hc : (S ++ T ++ U)[S.length + p]? = some (.cells (l.flatMap E.enc) v op true) := by rw [List.append_assoc, at_app]; exact at_old hB
      cases ex with
      | true =>
        refine ⟨.sl (S ++ T ++ U).length 0 0 (l.length + r.length) (l.length + r.length) false, S ++ T, [.cells (l.flatMap E.enc ++ r.flatMap E.enc) 0 (some E.sz) true], ?_, rfl, T ++ (U ++ [.cells (l.flatMap E.enc ++ r.flatMap E.enc) 0 (some E.sz) true]), by simp, T.length + U.length, 0, by simp, by rw [List.getElem?_append_right (by omega), List.getElem?_append_right (by omega), List.flatMap_append]; simp⟩
        have hrow : rowAt (S ++ T ++ U) (S.length + p) 0 v (l.length * E.sz) = some (l.flatMap E.enc) := by
          rw [rowAt_B, hc, rowB_some, if_pos (by rw [enc_length]; omega), List.drop_zero, ← enc_length, List.take_length]
        simp only [appV, hrow]
        rw [if_neg (by omega), if_neg (by omega), if_pos ⟨h1', h2'⟩, List.append_assoc (S ++ T)]
        rfl
      | false =>
        have ho : op = some E.sz := ho.resolve_left (by simp)
        subst ho
        refine ⟨.sl (S.length + p) 0 (v + 1) (l.length + r.length) (l.length + r.length) false, S ++ T.set p (.cells (l.flatMap E.enc ++ r.flatMap E.enc) (v + 1) (some E.sz) true), [], ?_, by simp, T.set p (.cells (l.flatMap E.enc ++ r.flatMap E.enc) (v + 1) (some E.sz) true) ++ U, by simp, p, v + 1, by rw [List.length_append], by rw [List.getElem?_append_left (by simpa using hp), List.flatMap_append]; simp [hp]⟩
        simp only [appV]
        rw [if_neg (by omega), if_neg (by omega), if_pos ⟨h1', h2'⟩]
        simp only [hc, Bool.false_eq_true, if_false]
        rw [if_pos ⟨trivial, trivial, trivial, by rw [enc_length]; omega, all_one hE r⟩, List.append_assoc S T U, set_app, ← enc_length, List.take_length, List.set_append_left _ _ hp, List.append_nil, List.append_assoc]

/-! ### The end -/
theorem Acc.keep {x : AV} {l : List α} (hF : ∀ n a, ∀ c ∈ E.enc a, AV.Flat n c) (h : Acc z E S M x l) : ∃ (keep : List Nat) (T : Mem), M = S ++ T ∧ (keep.all (fun k => match T[k]? with | some B => B.plain | none => false) = true) ∧ keep.Nodup ∧
    ren S.length (gKeep S.length T keep) x = retX z S l ∧ S ++ keepB S.length T keep = retM z E S l := by
  obtain ⟨T, rfl, ⟨rfl, rfl, rfl⟩ | ⟨rfl, rfl, p, rfl, hB⟩ | ⟨h0, p, v, rfl, hB⟩⟩ := h
  · exact ⟨[], T, rfl, rfl, List.nodup_nil, ren_sn, by simp [keepB_nil, retM]⟩
  · refine ⟨[p], T, rfl, by simp [hB, Blk.plain], by simp, ?_, ?_⟩
    · rw [ren_sl, gKeep_at, hB]
      simp only [List.findIdx?_cons, beq_self_eq_true, if_true, gQ_some, ver_cells, renS_some, Nat.add_zero]
      rfl
    · have hk : keepB S.length T [p] = [.cells [] 0 none true] := by
        simp only [keepB_eq, List.map_cons, List.map_nil]
        rw [show T.getD p (.dfr false) = .cells [] 0 none true by rw [List.getD_eq_getElem?_getD, hB]; rfl]
        simp only [renB_cells, renL_nil]
      rw [hk]; rfl
  · refine ⟨[p], T, rfl, by simp [hB, Blk.plain], by simp, ?_, ?_⟩
    · rw [ren_sl, gKeep_at, hB]
      simp only [List.findIdx?_cons, beq_self_eq_true, if_true, gQ_some, ver_cells, renS_some, Nat.add_zero]
      cases l with
      | nil => exact absurd rfl h0
      | cons a l => rfl
    · have hk : keepB S.length T [p] = [.cells (l.flatMap E.enc) 0 (some E.sz) true] := by
        simp only [keepB_eq, List.map_cons, List.map_nil]
        rw [show T.getD p (.dfr false) = .cells (l.flatMap E.enc) v (some E.sz) true by rw [List.getD_eq_getElem?_getD, hB]; rfl]
        simp only [renB_cells, renL_eq]
        congr 2
        refine (List.map_congr_left (g := id) fun c hc => ?_).trans (List.map_id _)
        obtain ⟨a, _, ha⟩ := List.mem_flatMap.1 hc
        exact hF _ _ _ ha _
      rw [hk]
      cases l with
      | nil => exact absurd rfl h0
      | cons a l => rfl
theorem Acc.ret {x : AV} {l : List α} (hF : ∀ n a, ∀ c ∈ E.enc a, AV.Flat n c) (h : Acc z E S M x l) : WkV S (retX z S l) (retM z E S l) x M := by
  obtain ⟨keep, T, rfl, h1, h2, h3, h4⟩ := h.keep hF
  have := wkv_keep (S0 := S) (L := T) (y := x) keep h1 h2
  rwa [h3, h4] at this
theorem Acc.ret2 {x y : AV} {l : List α} (hF : ∀ n a, ∀ c ∈ E.enc a, AV.Flat n c) (h : Acc z E S M x l) (hy : AV.Flat S.length y) : WkV S (.tu [retX z S l, y]) (retM z E S l) (.tu [x, y]) M := by
  obtain ⟨keep, T, rfl, h1, h2, h3, h4⟩ := h.keep hF
  have := wkv_keep (S0 := S) (L := T) (y := .tu [x, y]) keep h1 h2
  rw [ren_tu, renL_cons, renL_cons, renL_nil, h3, h4, hy] at this
  exact this
theorem retX_acc {l : List α} : Acc z E S (retM z E S l) (retX z S l) l := by
  cases l with
  | nil => cases z with
    | false => exact ⟨[], by simp [retM], .inl ⟨rfl, rfl, rfl⟩⟩
    | true => exact ⟨_, rfl, .inr (.inl ⟨rfl, rfl, 0, rfl, rfl⟩)⟩
  | cons a l => exact ⟨_, rfl, .inr (.inr ⟨by simp, 0, 0, rfl, rfl⟩)⟩
theorem retX_lst {l : List α} : lstV E (retM z E S l) (retX z S l) = some l := retX_acc.lst
end
theorem likeOn_cons {e e' : Env} {t : Nat} {r : List Nat} : likeOn e e' (t :: r) = (avEqv (e.get t) (e'.get t) && likeOn e e' r) := (rfl)
theorem dstL_none {g : Option (Nat × Bool)} {io : IOp} : dstL ⟨none, g, io⟩ = [] := (rfl)
theorem dstL_some {t : Nat} {g : Option (Nat × Bool)} {io : IOp} : dstL ⟨some t, g, io⟩ = [t] := (rfl)
theorem eqv_m {i : Nat} : avEqv (.m i) (.m i) = true := by simp [avEqv]
theorem eqv_p {a b c : Nat} : avEqv (.p a b c) (.p a b c) = true := by simp [avEqv]
theorem eqv_i {k : IntKind} {n : Int} : avEqv (.i k n) (.i k n) = true := by simp [avEqv]
theorem eqv_ag {l : List AV} : avEqv (.ag l) (.ag l) = avEqvL l l := by simp [avEqv]
theorem eqv_tu {l : List AV} : avEqv (.tu l) (.tu l) = avEqvL l l := by simp [avEqv]
theorem eqvL_nil : avEqvL [] [] = true := by simp [avEqvL]
theorem eqvL_cons {a b : AV} {l m : List AV} : avEqvL (a :: l) (b :: m) = (avEqv a b && avEqvL l m) := by simp [avEqvL]
theorem eqv_b {x : Bool} : avEqv (.b x) (.b x) = true := by simp [avEqv]
theorem eqv_sl {a b c d e : Nat} {x : Bool} : avEqv (.sl a b c d e x) (.sl a b c d e x) = true := by simp [avEqv]
theorem eqv_sn : avEqv .sn .sn = true := by simp [avEqv]
theorem eqv_pn : avEqv .pn .pn = true := by simp [avEqv]
theorem eqv_lst {α : Type} {E : Enc α} {S : Mem} {x : AV} {l : List α} (h : lstV E S x = some l) : avEqv x x = true := by
  rcases lstV_lst h with ⟨rfl, rfl⟩ | ⟨rfl, rfl⟩ | ⟨i, o, v, len, cap, ex, rfl, rfl, h3⟩ <;> simp [avEqv]
/-- One block is kept. -/
theorem wkv_at {S T : Mem} {cs : List AV} {op : Option Nat} {r ex : Bool} {p v l c : Nat} (hB : T[p]? = some (.cells cs v op r)) (hf : ∀ x ∈ cs, AV.Flat S.length x) : WkV S (.sl S.length 0 0 l c ex) (S ++ [.cells cs 0 op r]) (.sl (S.length + p) 0 v l c ex) (S ++ T) := by
  have := wkv_keep (S0 := S) (L := T) (y := .sl (S.length + p) 0 v l c ex) [p] (by simp [hB, Blk.plain]) (by simp)
  have h1 : ren S.length (gKeep S.length T [p]) (.sl (S.length + p) 0 v l c ex) = .sl S.length 0 0 l c ex := by
    rw [ren_sl, gKeep_at, hB]
    simp [gQ_some, ver_cells, renS_some]
  have h2 : keepB S.length T [p] = [.cells cs 0 op r] := by
    simp only [keepB_eq, List.map_cons, List.map_nil]
    rw [show T.getD p (.dfr false) = .cells cs v op r by rw [List.getD_eq_getElem?_getD, hB]; rfl]
    simp only [renB_cells, renL_eq]
    congr 2
    exact (List.map_congr_left (g := id) fun c hc => hf _ hc _).trans (List.map_id _)
  rwa [h1, h2] at this
theorem pre_retM {α : Type} {z : Bool} {E : Enc α} {S : Mem} {l : List α} : (S <+: retM z E S l) = True := eq_true retM_ext
theorem retX_ne {α : Type} {z : Bool} {S : Mem} {l : List α} (h : l ≠ []) : retX z S l = .sl S.length 0 0 l.length l.length false := by
  cases l with
  | nil => exact absurd rfl h
  | cons a l => rfl
theorem retM_ne {α : Type} {z : Bool} {E : Enc α} {S : Mem} {l : List α} (h : l ≠ []) : retM z E S l = S ++ [.cells (l.flatMap E.enc) 0 (some E.sz) true] := by
  cases l with
  | nil => exact absurd rfl h
  | cons a l => rfl

/-! ### A list's block, written to -/
theorem flat_take {α : Type} {E : Enc α} (l : List α) (k : Nat) : (l.flatMap E.enc).take (k * E.sz) = (l.take k).flatMap E.enc := by
  induction l generalizing k with
  | nil => simp
  | cons a l ih =>
    cases k with
    | zero => simp
    | succ k =>
      rw [List.flatMap_cons, List.take_succ_cons, List.flatMap_cons, Nat.add_mul, Nat.one_mul, ← ih, List.take_append, E.len, List.take_of_length_le (by rw [E.len]; omega)]
      congr 2; omega
theorem flat_drop {α : Type} {E : Enc α} (l : List α) (k : Nat) : (l.flatMap E.enc).drop (k * E.sz) = (l.drop k).flatMap E.enc := by
  induction l generalizing k with
  | nil => simp
  | cons a l ih =>
    cases k with
    | zero => simp
    | succ k =>
      rw [List.flatMap_cons, List.drop_succ_cons, Nat.add_mul, Nat.one_mul, ← ih, List.drop_append, E.len, List.drop_of_length_le (by rw [E.len]; omega), List.nil_append]
      congr 1; omega
/-- What lies in a block of its own. -/
def ownV {α : Type} (E : Enc α) (S : Mem) (x : AV) : Option (List α) := match x with
  | .sl b 0 v n cap ex => match S[b]? with
    | some (.cells cs v' op true) => if v' = v ∧ cap = n ∧ cs.length = n * E.sz then decL E n cs else none
    | _ => none
  | _ => none
theorem ownV_ok {α : Type} {E : Enc α} {S : Mem} {x : AV} {l : List α} (h : ownV E S x = some l) : ∃ b v ex op, x = .sl b 0 v l.length l.length ex ∧ S[b]? = some (.cells (l.flatMap E.enc) v op true) := by
  unfold ownV at h
  split at h
  · split at h
    · rename_i hB
      split at h
      · rename_i hc
        obtain ⟨rfl, rfl, hc⟩ := hc
        obtain ⟨h1, h2⟩ := decL_ok _ _ _ h hc
        subst h1; rw [h2] at hB
        exact ⟨_, _, _, _, rfl, hB⟩
      · cases h
    · cases h
  · cases h
theorem ownV_mk {α : Type} {E : Enc α} {S : Mem} {l : List α} {b v : Nat} {ex : Bool} {op : Option Nat} (h : S[b]? = some (.cells (l.flatMap E.enc) v op true)) : ownV E S (.sl b 0 v l.length l.length ex) = some l := by
  simp only [ownV, h, enc_length, and_self, if_true, decL_enc]
theorem own_lst {α : Type} {E : Enc α} {S : Mem} {x : AV} {l : List α} (h : ownV E S x = some l) : lstV E S x = some l := by
  obtain ⟨b, v, ex, op, rfl, hB⟩ := ownV_ok h
  refine lst_lstV (.inr (.inr ⟨_, _, _, _, _, _, rfl, rfl, ?_⟩))
  rw [rowAt_B, hB, rowB_some, if_pos (by rw [enc_length]; omega), List.drop_zero, ← enc_length, List.take_length]
theorem lst_cells {α : Type} {E : Enc α} {S : Mem} {x : AV} {l : List α} (h : lstV E S x = some l) : x.cells = some [x] := by
  rcases lstV_lst h with ⟨rfl, rfl⟩ | ⟨rfl, rfl⟩ | ⟨i, o, v, len, cap, ex, rfl, rfl, h3⟩ <;> rfl
theorem lst_one {α : Type} {E : Enc α} {S : Mem} {x : AV} {l : List α} (h : lstV E S x = some l) : x.one = true := by
  rcases lstV_lst h with ⟨rfl, rfl⟩ | ⟨rfl, rfl⟩ | ⟨i, o, v, len, cap, ex, rfl, rfl, h3⟩ <;> rfl
theorem zerosV_1 {z : List AV} : zerosV z 1 = z := by rw [zerosV_succ, zerosV_zero, List.append_nil]
theorem src_se {S : Mem} {size : Nat} : srcV S size .se = some ([], 0) := (rfl)
theorem app_sl0 {S : Mem} {size bytes i o v len cap : Nat} {ex : Bool} {cs : List AV} : appV S size bytes (.sl i o v len cap ex) cs 0 = some (.sl i o v len cap ex, S) := (rfl)
theorem app_sn0 {S : Mem} {size bytes : Nat} {cs : List AV} : appV S size bytes .sn cs 0 = some (.sn, S) := (rfl)
theorem app_se0 {S : Mem} {size bytes : Nat} {cs : List AV} : appV S size bytes .se cs 0 = some (.se, S) := (rfl)
attribute [go_sem] List.prefix_append_right_inj List.cons_prefix_cons List.nil_prefix pre_retM zerosV_1 zerosV_zero src_se app_sl0 app_sn0 app_se0
theorem Flat_i {n : Nat} {q : IntKind} {z : Int} : AV.Flat n (.i q z) := fun g => ren_i
theorem Flat_b {n : Nat} {z : Bool} : AV.Flat n (.b z) := fun g => ren_b
theorem Flat_sn {n : Nat} : AV.Flat n .sn := fun g => ren_sn
end Go.Proofs.YtmolaemlenllmaaGreat

namespace Go.Proofs.YtmolaemlenllmaaGreat
open Go.RowKit
set_option linter.unusedSimpArgs false
set_option linter.unusedVariables false

/-! ### Lists that are built, and other blocks -/
section
variable {α : Type} {E : Enc α} {S M : Mem}
theorem Acc.base {z : Bool} {S2 : Mem} {x : AV} {l : List α} (hS : S <+: S2) (h : Acc z E S2 M x l) : Acc z E S M x l := by
  obtain ⟨U, rfl⟩ := hS
  obtain ⟨T, rfl, h⟩ := h
  refine ⟨U ++ T, by rw [List.append_assoc], ?_⟩
  have at2 : ∀ p, (U ++ T)[U.length + p]? = T[p]? := fun p => at_app
  rcases h with h | ⟨h0, hz, p, h1, h2⟩ | ⟨h0, p, v, h1, h2⟩
  · exact .inl h
  · exact .inr (.inl ⟨h0, hz, U.length + p, by rw [h1, List.length_append, Nat.add_assoc], by rw [at2]; exact h2⟩)
  · exact .inr (.inr ⟨h0, U.length + p, v, by rw [h1, List.length_append, Nat.add_assoc], by rw [at2]; exact h2⟩)
end

theorem at_pre {S M : Mem} {i : Nat} {B : Blk} (h : S <+: M) (hB : S[i]? = some B) : M[i]? = some B := by
  obtain ⟨T, rfl⟩ := h; exact at_old hB
theorem set_self {S : Mem} {i : Nat} {B : Blk} (h : S[i]? = some B) : S.set i B = S := by
  obtain ⟨hi, he⟩ := List.getElem?_eq_some_iff.1 h
  subst he
  exact List.set_getElem_self hi
end Go.Proofs.YtmolaemlenllmaaGreat

namespace Go.Proofs.YtmolaemlenllmaaGreat
open Go.RowKit
set_option linter.unusedSimpArgs false
set_option linter.unusedVariables false

/-! ### A call, by what holds of its answer -/
section
variable {P : Program}
open Classical in
noncomputable def relS (P : Program) (f : FuncId) (R : List AV → Mem → AV → Mem → Prop) : Spec := fun args S =>
  if h : ∃ r : AV × Mem, FnOK P f args S r.1 r.2 ∧ R args S r.1 r.2 then some (Classical.choose h) else none
theorem relS_ok {f : FuncId} {R : List AV → Mem → AV → Mem → Prop} : SpecOK P f (relS P f R) := by
  intro args S x S' h
  unfold relS at h
  split at h
  · rename_i hc
    have h1 := (Classical.choose_spec hc).1
    injection h with h
    rw [h] at h1
    exact h1
  · cases h
theorem relS_eq {f : FuncId} {R : List AV → Mem → AV → Mem → Prop} {args : List AV} {S : Mem} {x : AV} {S' : Mem} (h1 : FnOK P f args S x S') (h2 : R args S x S') : ∃ y S2, relS P f R args S = some (y, S2) ∧ R args S y S2 := by
  have hc : ∃ r : AV × Mem, FnOK P f args S r.1 r.2 ∧ R args S r.1 r.2 := ⟨(x, S'), h1, h2⟩
  refine ⟨(Classical.choose hc).1, (Classical.choose hc).2, ?_, (Classical.choose_spec hc).2⟩
  unfold relS
  rw [dif_pos hc]
end

/-! ### A loop, state by state -/
section
variable {P : Program} {S0 : Mem} {rd : Bool}
/-- There and nowhere else. -/
def onlyK (x1 : IX) (e1 : Env) (S1 : Mem) : Kont := fun x e S d => x = x1 ∧ e = e1 ∧ S = S1 ∧ d = []
theorem onlyK_mk {x1 : IX} {e1 : Env} {S1 : Mem} : onlyK x1 e1 S1 x1 e1 S1 [] := ⟨rfl, rfl, rfl, rfl⟩
def Reach (P : Program) (S0 : Mem) (rd : Bool) (l : List Nat) (c : ICode) (x1 : IX) (e1 : Env) (S1 : Mem) : Nat → Env → Mem → List Nat → Prop
  | 0, e, S, d => d = [] ∧ WP P S0 rd c (keepE e l) S [] (onlyK x1 e1 S1)
  | j + 1, e, S, d => d = [] ∧ ∃ e' S', WP P S0 rd c (keepE e l) S [] (onlyK .normal e' S') ∧ Reach P S0 rd l c x1 e1 S1 j e' S' []
theorem wp_reach {l : List Nat} {c : ICode} {x1 : IX} {e1 : Env} {S1 : Mem} (hx : x1 ≠ .normal) {j : Nat} {e : Env} {S : Mem} (h : Reach P S0 rd l c x1 e1 S1 j e S []) : WP P S0 rd (.loop l c) e S [] (onlyK x1 e1 S1) := by
  refine wp_loop (fun j e S d => Reach P S0 rd l c x1 e1 S1 j e S d) h ?_
  intro j e S d hj
  cases j with
  | zero =>
    obtain ⟨rfl, hw⟩ := hj
    refine hw.mono ?_
    rintro x e' S' d' ⟨rfl, rfl, rfl, rfl⟩
    cases x with
    | normal => exact absurd rfl hx
    | ret => exact onlyK_mk
    | exit id => exact onlyK_mk
    | goto g => exact onlyK_mk
  | succ j =>
    obtain ⟨rfl, e', S', hw, hr⟩ := hj
    refine hw.mono ?_
    rintro x e2 S2 d2 ⟨rfl, rfl, rfl, rfl⟩
    exact ⟨j, Nat.lt_succ_self j, hr⟩
/-- A loop whose rounds are each known: where it ends. -/
theorem wp_trace {l : List Nat} {c : ICode} (J : Nat → Env → Mem → Prop) (R : IX → Env → Mem → Prop) (hR : ∀ e S, ¬ R .normal e S)
    (step : ∀ k e S, J k e S → (∃ k' e' S', k' < k ∧ J k' e' S' ∧ WP P S0 rd c (keepE e l) S [] (onlyK .normal e' S')) ∨ ∃ x e' S', R x e' S' ∧ WP P S0 rd c (keepE e l) S [] (onlyK x e' S')) :
    ∀ (k : Nat) (e : Env) (S : Mem), J k e S → ∃ x e' S', R x e' S' ∧ WP P S0 rd (.loop l c) e S [] (onlyK x e' S') := by
  have key : ∀ (m k : Nat) (e : Env) (S : Mem), k ≤ m → J k e S → ∃ j x e' S', R x e' S' ∧ Reach P S0 rd l c x e' S' j e S [] := by
    intro m
    induction m with
    | zero =>
      intro k e S hk hJ
      rcases step k e S hJ with ⟨k', e', S', hlt, _⟩ | ⟨x, e', S', h1, h2⟩
      · omega
      · exact ⟨0, x, e', S', h1, rfl, h2⟩
    | succ m ih =>
      intro k e S hk hJ
      rcases step k e S hJ with ⟨k', e', S', hlt, hJ', hw⟩ | ⟨x, e', S', h1, h2⟩
      · obtain ⟨j, x, e2, S2, h1, h2⟩ := ih k' e' S' (by omega) hJ'
        exact ⟨j + 1, x, e2, S2, h1, rfl, e', S', hw, h2⟩
      · exact ⟨0, x, e', S', h1, rfl, h2⟩
  intro k e S hJ
  obtain ⟨j, x, e', S', h1, h2⟩ := key k k e S (Nat.le_refl _) hJ
  exact ⟨x, e', S', h1, wp_reach (fun h => hR e' S' (h ▸ h1)) h2⟩
end
end Go.Proofs.YtmolaemlenllmaaGreat

namespace Go.Proofs.YtmolaemlenllmaaGreat
open Go.RowKit
set_option linter.unusedSimpArgs false
set_option linter.unusedVariables false

section
variable {O : Orc} {e er ef : Env} {S : Mem} {k : Env → Mem → Prop} {kn : Env → Prop} {kp : Env → Mem → List Noted → Prop}

/-! ### The run -/
def dNs (O : Orc) : List (ROp × Nat) → Env → Mem → (Env → Prop) → Prop
  | [], e, _, k => k e
  | (o, _) :: r, e, S, k => optK (evOne O e S o) fun x _ => dNs O r (putE e o.dst x) S k
def dOpt (O : Orc) (o : Option ROp) (e : Env) (S : Mem) (k : Env → Mem → Prop) : Prop := match o with
  | none => k e S
  | some o => optK (evOne O e S o) fun x S' => k (putE e o.dst x) S'
def dStages (O : Orc) : List Stage → Env → Mem → (Env → Mem → List Noted → Prop) → Prop
  | [], e, S, k => k e S []
  | st :: r, e, S, k => dNs O st.ns e S fun e1 => dOpt O st.a e1 S fun e2 S2 => dOpt O st.m e2 S2 fun e3 S3 => dStages O r e3 S3 fun ef Sf pre => k ef Sf (⟨S, e1, e2, e3⟩ :: pre)

/-! ### The second look -/
def eqK (ef : Env) : Option Nat → AV → Mem → Prop
  | some t => fun x _ => avEqv x (ef.get t) = true
  | none => fun _ _ => True
def kA (O : Orc) (er ef : Env) (o : ROp) : Option Noted → Prop
  | some N => optK (evOne O er N.S o) (eqK ef o.dst)
  | none => False
def kN (O : Orc) (er ef : Env) (pre : List Noted) (o : ROp) (hi : Nat) : Nat → Nat → Prop
  | 0, _ => True
  | fuel + 1, s => if s ≤ hi then kA O er ef o (pre[s]?) ∧ kN O er ef pre o hi fuel (s + 1) else True
def kNs (O : Orc) (er ef : Env) (pre : List Noted) (s : Nat) : List (ROp × Nat) → Prop
  | [] => True
  | (o, hi) :: r => kN O er ef pre o hi (hi + 1) s ∧ kNs O er ef pre s r
def kLike (e e' : Env) : List Nat → Prop
  | [] => True
  | t :: r => avEqv (e.get t) (e'.get t) = true ∧ kLike e e' r
def kOpt (er ef e e' : Env) : Option ROp → Prop
  | none => True
  | some o => kLike e er o.use ∧ kLike e' ef (dstL o)
def kSt (O : Orc) (er ef : Env) (pre : List Noted) : List Stage → List Noted → Nat → Prop
  | st :: r, N :: r', s => kNs O er ef pre s st.ns ∧ kOpt er ef N.e1 N.e2 st.a ∧ kOpt er ef N.e2 N.e3 st.m ∧ kSt O er ef pre r r' (s + 1)
  | [], [], _ => True
  | _, _, _ => False

/-! ### Sound -/
theorem dNs_ok : ∀ (l : List (ROp × Nat)) (e : Env) (S : Mem) (k : Env → Prop), dNs O l e S k → ∃ e1, evNs O l e S = some e1 ∧ k e1
  | [], e, S, k, h => ⟨e, rfl, h⟩
  | (o, n) :: r, e, S, k, h => by
    simp only [dNs] at h
    unfold optK at h
    split at h
    · rename_i p hp
      obtain ⟨e1, h1, h2⟩ := dNs_ok r _ _ _ h
      exact ⟨e1, by simp only [evNs, hp, h1], h2⟩
    · exact h.elim
theorem dOpt_ok {o : Option ROp} (h : dOpt O o e S k) : ∃ e1 S1, evOpt O o e S = some (e1, S1) ∧ k e1 S1 := by
  unfold dOpt at h
  split at h
  · exact ⟨e, S, rfl, h⟩
  · rename_i o
    unfold optK at h
    split at h
    · rename_i p hp
      exact ⟨_, _, by simp only [evOpt, hp], h⟩
    · exact h.elim
theorem dStages_ok : ∀ (l : List Stage) (e : Env) (S : Mem) (k : Env → Mem → List Noted → Prop), dStages O l e S k → ∃ ef Sf pre, evStages O l e S = some (ef, Sf, pre) ∧ k ef Sf pre
  | [], e, S, k, h => ⟨e, S, [], rfl, h⟩
  | st :: r, e, S, k, h => by
    simp only [dStages] at h
    obtain ⟨e1, h1, h⟩ := dNs_ok _ _ _ _ h
    obtain ⟨e2, S2, h2, h⟩ := dOpt_ok h
    obtain ⟨e3, S3, h3, h⟩ := dOpt_ok h
    obtain ⟨ef, Sf, pre, h4, h⟩ := dStages_ok r _ _ _ h
    exact ⟨ef, Sf, _, by simp only [evStages, h1, h2, h3, h4], h⟩
theorem kN_ok {pre : List Noted} {o : ROp} {hi : Nat} : ∀ (fuel s : Nat), kN O er ef pre o hi fuel s → chkN O er ef pre o hi fuel s = true
  | 0, _, _ => rfl
  | fuel + 1, s, h => by
    simp only [kN] at h
    simp only [chkN]
    split
    · rename_i hs
      rw [if_pos hs] at h
      obtain ⟨h1, h2⟩ := h
      unfold kA at h1
      split at h1
      · rename_i N hN
        simp only [hN]
        rw [kN_ok fuel (s + 1) h2]
        unfold optK at h1
        split at h1
        · rename_i p hp
          simp only [hp]
          cases hd : o.dst with
          | none => rfl
          | some t => rw [hd] at h1; simpa [eqK] using h1
        · exact h1.elim
      · exact h1.elim
    · rfl
theorem kNs_ok {pre : List Noted} {s : Nat} : ∀ (l : List (ROp × Nat)), kNs O er ef pre s l → (l.all fun p => chkN O er ef pre p.1 p.2 (p.2 + 1) s) = true
  | [], _ => rfl
  | (o, hi) :: r, h => by
    simp only [List.all_cons, Bool.and_eq_true]
    exact ⟨kN_ok _ _ h.1, kNs_ok r h.2⟩
theorem kLike_ok {e e' : Env} : ∀ (l : List Nat), kLike e e' l → likeOn e e' l = true
  | [], _ => rfl
  | t :: r, h => by rw [likeOn_cons, h.1, kLike_ok r h.2]; rfl
theorem kOpt_ok {e e' : Env} {o : Option ROp} (h : kOpt er ef e e' o) : chkOpt er ef e e' o = true := by
  cases o with
  | none => rfl
  | some o => simp only [chkOpt, kLike_ok _ h.1, kLike_ok _ h.2, Bool.and_self]
theorem kSt_ok {pre : List Noted} : ∀ (l : List Stage) (l' : List Noted) (s : Nat), kSt O er ef pre l l' s → chkStages O er ef pre l l' s = true
  | [], [], _, _ => rfl
  | st :: r, N :: r', s, h => by
    obtain ⟨h1, h2, h3, h4⟩ := h
    simp only [chkStages, kNs_ok _ h1, kOpt_ok h2, kOpt_ok h3, kSt_ok r r' _ h4, Bool.and_self]
  | [], _ :: _, _, h => h.elim
  | _ :: _, [], _, h => h.elim

/-- The run, and behind it the second look. -/
def dEnd (O : Orc) (st : List Stage) (late : List Nat) (e : Env) (k : Env → Mem → Prop) : Env → Mem → List Noted → Prop := fun ef Sf pre => kSt O (keepE e late ++ ef) ef pre st pre 0 ∧ k ef Sf
theorem draw_of {st : List Stage} {late : List Nat} (h : dStages O st e S (dEnd O st late e k)) : drawK (evDraw O st late e S) k := by
  obtain ⟨ef, Sf, pre, h1, h2, h3⟩ := dStages_ok _ _ _ _ h
  have h4 := kSt_ok _ _ _ h2
  simp only [evDraw, h1, h4, if_true]
  exact h3

/-! ### Rules -/
def dnK (O : Orc) (r : List (ROp × Nat)) (e : Env) (dst : Option Nat) (S : Mem) (k : Env → Prop) : AV → Mem → Prop := fun x _ => dNs O r (putE e dst x) S k
def doK (e : Env) (dst : Option Nat) (k : Env → Mem → Prop) : AV → Mem → Prop := fun x S' => k (putE e dst x) S'
def s4K (S : Mem) (e1 e2 e3 : Env) (k : Env → Mem → List Noted → Prop) : Env → Mem → List Noted → Prop := fun ef Sf pre => k ef Sf (⟨S, e1, e2, e3⟩ :: pre)
def s3K (O : Orc) (r : List Stage) (S : Mem) (e1 e2 : Env) (k : Env → Mem → List Noted → Prop) : Env → Mem → Prop := fun e3 S3 => dStages O r e3 S3 (s4K S e1 e2 e3 k)
def s2K (O : Orc) (m : Option ROp) (r : List Stage) (S : Mem) (e1 : Env) (k : Env → Mem → List Noted → Prop) : Env → Mem → Prop := fun e2 S2 => dOpt O m e2 S2 (s3K O r S e1 e2 k)
def s1K (O : Orc) (a m : Option ROp) (r : List Stage) (S : Mem) (k : Env → Mem → List Noted → Prop) : Env → Prop := fun e1 => dOpt O a e1 S (s2K O m r S e1 k)
theorem dNs_nil : dNs O [] e S kn = kn e := (rfl)
theorem dNs_cons {o : ROp} {n : Nat} {r : List (ROp × Nat)} : dNs O ((o, n) :: r) e S kn = optK (evOne O e S o) (dnK O r e o.dst S kn) := (rfl)
theorem dnK_some {r : List (ROp × Nat)} {t : Nat} {x : AV} {S' : Mem} : dnK O r e (some t) S kn x S' = dNs O r ((t, x) :: e) S kn := (rfl)
theorem dnK_none {r : List (ROp × Nat)} {x : AV} {S' : Mem} : dnK O r e none S kn x S' = dNs O r e S kn := (rfl)
theorem dOpt_none : dOpt O none e S k = k e S := (rfl)
theorem dOpt_some {o : ROp} : dOpt O (some o) e S k = optK (evOne O e S o) (doK e o.dst k) := (rfl)
theorem doK_some {t : Nat} {x : AV} {S' : Mem} : doK e (some t) k x S' = k ((t, x) :: e) S' := (rfl)
theorem doK_none {x : AV} {S' : Mem} : doK e none k x S' = k e S' := (rfl)
theorem dStages_nil : dStages O [] e S kp = kp e S [] := (rfl)
theorem dStages_cons {ns : List (ROp × Nat)} {a m : Option ROp} {r : List Stage} : dStages O (⟨ns, a, m⟩ :: r) e S kp = dNs O ns e S (s1K O a m r S kp) := (rfl)
theorem s1K_app {a m : Option ROp} {r : List Stage} {e1 : Env} : s1K O a m r S kp e1 = dOpt O a e1 S (s2K O m r S e1 kp) := (rfl)
theorem s2K_app {m : Option ROp} {r : List Stage} {e1 e2 : Env} {S2 : Mem} : s2K O m r S e1 kp e2 S2 = dOpt O m e2 S2 (s3K O r S e1 e2 kp) := (rfl)
theorem s3K_app {r : List Stage} {e1 e2 e3 : Env} {S3 : Mem} : s3K O r S e1 e2 kp e3 S3 = dStages O r e3 S3 (s4K S e1 e2 e3 kp) := (rfl)
theorem s4K_app {e1 e2 e3 : Env} {Sf : Mem} {pre : List Noted} : s4K S e1 e2 e3 kp ef Sf pre = kp ef Sf (⟨S, e1, e2, e3⟩ :: pre) := (rfl)
theorem dEnd_app {st : List Stage} {late : List Nat} {Sf : Mem} {pre : List Noted} : dEnd O st late e k ef Sf pre = (kSt O (keepE e late ++ ef) ef pre st pre 0 ∧ k ef Sf) := (rfl)
theorem evOne_op {dst : Option Nat} {io : IOp} : evOne O e S ⟨dst, none, io⟩ = evOp O e S io := (rfl)
def evG (x : AV) (b : Bool) (o : Option (AV × Mem)) (S : Mem) : Option (AV × Mem) := match (match x with | .b y => some (y == b) | .u => none | _ => some false) with
  | none => none
  | some false => some (.ud, S)
  | some true => o
theorem evOne_gd {dst : Option Nat} {t : Nat} {b : Bool} {io : IOp} : evOne O e S ⟨dst, some (t, b), io⟩ = evG (e.get t) b (evOp O e S io) S := by
  simp only [evOne, wantV, evG]
  cases e.get t <;> rfl
theorem evG_tt {o : Option (AV × Mem)} : evG (.b true) true o S = o := (rfl)
theorem evG_tf {o : Option (AV × Mem)} : evG (.b true) false o S = some (.ud, S) := (rfl)
theorem evG_ft {o : Option (AV × Mem)} : evG (.b false) true o S = some (.ud, S) := (rfl)
theorem evG_ff {o : Option (AV × Mem)} : evG (.b false) false o S = o := (rfl)
theorem evG_ud {b : Bool} {o : Option (AV × Mem)} : evG .ud b o S = some (.ud, S) := (rfl)
theorem kSt_nil {pre : List Noted} {s : Nat} : kSt O er ef pre [] [] s = True := (rfl)
theorem kSt_cons {pre r' : List Noted} {ns : List (ROp × Nat)} {a m : Option ROp} {r : List Stage} {s : Nat} {S1 : Mem} {e1 e2 e3 : Env} : kSt O er ef pre (⟨ns, a, m⟩ :: r) (⟨S1, e1, e2, e3⟩ :: r') s = (kNs O er ef pre s ns ∧ kOpt er ef e1 e2 a ∧ kOpt er ef e2 e3 m ∧ kSt O er ef pre r r' (s + 1)) := (rfl)
theorem kNs_nil {pre : List Noted} {s : Nat} : kNs O er ef pre s [] = True := (rfl)
theorem kNs_cons {pre : List Noted} {s hi : Nat} {o : ROp} {r : List (ROp × Nat)} : kNs O er ef pre s ((o, hi) :: r) = (kN O er ef pre o hi (hi + 1) s ∧ kNs O er ef pre s r) := (rfl)
theorem kN_zero {pre : List Noted} {s hi : Nat} {o : ROp} : kN O er ef pre o hi 0 s = True := (rfl)
theorem kN_succ {pre : List Noted} {s hi f : Nat} {o : ROp} : kN O er ef pre o hi (f + 1) s = if s ≤ hi then kA O er ef o (pre[s]?) ∧ kN O er ef pre o hi f (s + 1) else True := (rfl)
theorem kA_some {o : ROp} {S1 : Mem} {e1 e2 e3 : Env} : kA O er ef o (some ⟨S1, e1, e2, e3⟩) = optK (evOne O er S1 o) (eqK ef o.dst) := (rfl)
theorem eqK_some {t : Nat} {x : AV} {S' : Mem} : eqK ef (some t) x S' = (avEqv x (ef.get t) = true) := (rfl)
theorem eqK_none {x : AV} {S' : Mem} : eqK ef none x S' = True := (rfl)
theorem kOpt_none {e e' : Env} : kOpt er ef e e' none = True := (rfl)
theorem kOpt_some {e e' : Env} {o : ROp} : kOpt er ef e e' (some o) = (kLike e er o.use ∧ kLike e' ef (dstL o)) := (rfl)
theorem kLike_nil {e e' : Env} : kLike e e' [] = True := (rfl)
theorem kLike_cons {e e' : Env} {t : Nat} {r : List Nat} : kLike e e' (t :: r) = (avEqv (e.get t) (e'.get t) = true ∧ kLike e e' r) := (rfl)
theorem eqv_ud : avEqv .ud .ud = true := by simp [avEqv]
theorem eqv_u : avEqv .u .u = true := by simp [avEqv]
theorem eqv_mn : avEqv .mn .mn = true := by simp [avEqv]
end
end Go.Proofs.YtmolaemlenllmaaGreat

namespace Go.Proofs.YtmolaemlenllmaaGreat
open Go.RowKit
set_option linter.unusedSimpArgs false
set_option linter.unusedVariables false

section
variable {P : Program} {S0 : Mem} {rd : Bool} {e : Env} {S : Mem} {d : List Nat} {Q : Kont}

end
end Go.Proofs.YtmolaemlenllmaaGreat

namespace Go.Proofs.YtmolaemlenllmaaGreat
open Go.RowKit
set_option linter.unusedSimpArgs false
set_option linter.unusedVariables false

section
variable {S0 S S1 S2 : Mem} {e e1 e2 : Env}
theorem Wk.trans (h1 : Wk S0 e S e1 S1) (h2 : Wk S0 e1 S1 e2 S2) : Wk S0 e S e2 S2 := by
  intro base w0 K0 wE K w h0 h hst
  obtain ⟨K1, q1, q2, q3⟩ := h1 base w0 K0 wE K w h0 h hst
  obtain ⟨K2, r1, r2, r3⟩ := h2 base w0 K0 wE K1 w h0 q1 q3
  exact ⟨K2, r1, fun t v hv => r2 t v (q2 t v hv), r3⟩
end
end Go.Proofs.YtmolaemlenllmaaGreat

namespace Go.Proofs.YtmolaemlenllmaaGreat
open Go.RowKit
set_option linter.unusedSimpArgs false
set_option linter.unusedVariables false

section
variable {P : Program} {S0 : Mem} {rd : Bool} {e : Env} {S : Mem} {d : List Nat} {Q : Kont}
end
end Go.Proofs.YtmolaemlenllmaaGreat

namespace Go.Proofs.YtmolaemlenllmaaGreat
open Go.RowKit
set_option linter.unusedSimpArgs false
set_option linter.unusedVariables false

section
variable {S0 S : Mem} {e e2 : Env}
end
end Go.Proofs.YtmolaemlenllmaaGreat

